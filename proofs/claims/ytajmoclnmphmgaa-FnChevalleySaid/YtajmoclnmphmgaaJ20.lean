/-
  The draws: different numbers, in any order or ascending.
  spec.DrawPairs: two permutations and different numbers. (Printed by gen_dpairs.py.)
  The law FnChevalley, walked.
-/
import Derived.Test.YtajmoclnmphmgaaJ19
import Derived.Test.YtajmoclnmphmgaaJ6
import Derived.Test.YtajmoclnmphmgaaJ8
import Derived.Test.YtajmoclnmphmgaaJ10
import Derived.Test.YtajmoclnmphmgaaJ4
import Derived.Deep.RegionHeld3
import Derived.Test.YtajmoclnmphmgaaJ7
import Derived.OwnWalk
import Derived.Test.YtajmoclnmphmgaaJ18
import Derived.Deep.RegionLaw
namespace Go.Proofs.Ytajmoclnmphmgaa
set_option linter.all false
open Go.RowKit

/-- the next number from -9 to 9 -/
def cyc (x : Int) : Int := (x + 10) % 19 - 9
def cycN : Nat → Int → Int
  | 0, x => x
  | j + 1, x => cycN j (cyc x)
theorem cyc_rng (x : Int) : -9 ≤ cyc x ∧ cyc x ≤ 9 := by unfold cyc; omega
theorem cyc_free {x : Int} (hx : -9 ≤ x ∧ x ≤ 9) : ∀ {out : List Int}, out.length ≤ 3 → ∃ j, j < 4 ∧ cycN j x ∉ out := by
  intro out hl
  have d01 : cycN 0 x ≠ cycN 1 x := by simp only [cycN, cyc]; omega
  have d02 : cycN 0 x ≠ cycN 2 x := by simp only [cycN, cyc]; omega
  have d03 : cycN 0 x ≠ cycN 3 x := by simp only [cycN, cyc]; omega
  have d12 : cycN 1 x ≠ cycN 2 x := by simp only [cycN, cyc]; omega
  have d13 : cycN 1 x ≠ cycN 3 x := by simp only [cycN, cyc]; omega
  have d23 : cycN 2 x ≠ cycN 3 x := by simp only [cycN, cyc]; omega
  apply Classical.byContradiction
  intro h
  have a : ∀ j, j < 4 → cycN j x ∈ out := fun j hj => Classical.byContradiction fun e => h ⟨j, hj, e⟩
  have a0 := a 0 (by omega)
  have a1 := a 1 (by omega)
  have a2 := a 2 (by omega)
  have a3 := a 3 (by omega)
  clear a h
  generalize cycN 0 x = c0 at *
  generalize cycN 1 x = c1 at *
  generalize cycN 2 x = c2 at *
  generalize cycN 3 x = c3 at *
  match out, hl with
  | [], _ => cases a0
  | [a], _ => simp at a0 a1; omega
  | [a, b], _ => simp at a0 a1 a2; omega
  | [a, b, c], _ => simp at a0 a1 a2 a3; omega

set_option maxRecDepth 100000 in
set_option maxHeartbeats 4000000 in
/-- n different numbers from -9 to 9 -/
theorem dApart_any (k n : Nat) (w : World) (h : Cur w k) (h4 : n ≤ 4) :
    Calls Try.prog 45 #[.pointer (some ⟨k, 0, none⟩), .int .i64 (n : Int)] w fun e w' =>
      ∃ (u : Value) (ys : List Int), e = .returned u ∧ OwnI 3 w' w.heap.size w'.heap.size u ys ∧ ys.length = n ∧ ys.Nodup ∧ (∀ x ∈ ys, -9 ≤ x ∧ x ≤ 9) ∧ Cur w' k ∧ Frm k (k + 1) w w' := by
  have Hc := Lib.hid h
  have hk := h.lt
  clear h
  go_enter Try.func45, Try.ntmps45
  go_wp2_with fail
  go_loopg [5] n (fun g s5 wr => ∃ (i : Nat) (cs : List Int), i ≤ n ∧ g = n - i ∧ Hid (cs.length = i) ∧ Hid (cs.Nodup) ∧ Hid (∀ x ∈ cs, -9 ≤ x ∧ x ≤ 9) ∧ Hid (OwnI 3 wr w.heap.size wr.heap.size s5 cs) ∧ Hid (Cur wr k) ∧ Hid (Frm k (k + 1) w wr))
  case atStart =>
    refine ⟨0, [], Nat.zero_le _, rfl, Lib.hid rfl, Lib.hid List.nodup_nil, Lib.hid (by simp), ?_, Hc.out.below (below_alloc w _), Frm.of_below (below_alloc w _) _ _⟩
    exact OwnF.ints ((OwnF.made0 w 3 (iv [])).mono (Nat.le_refl _) (by simp))
  case round =>
    obtain ⟨i, cs, hi, rfl, hcl, hnd, hrg, ho, hcu, hf⟩ := hrel
    obtain ⟨wx, rfl⟩ : ∃ x : World, x = wr := ⟨_, rfl⟩
    have hsr := hf.out.size
    obtain ⟨p5, k5, rfl, hk5, hk55⟩ := ho.out.shape
    have hofn := ho.out.fn
    rw [hcl.out] at hofn hk5 ⊢
    unfold maxLen at hk55
    have Ho := Lib.hid ho.out
    have Hofn := Lib.hid hofn
    have Hcl := Lib.hid hcl.out
    have Hnd := Lib.hid hnd.out
    have Hrg := Lib.hid hrg.out
    have Hcu := Lib.hid hcu.out
    have Hf := Lib.hid hf.out
    clear hcl hnd hrg ho hcu hf hofn
    by_cases hlt : i < n
    · have hlt2 : (i : Int) < (n : Int) := by omega
      have Hb1 := Lib.hid (show i + 1 ≤ maxLen by unfold maxLen; omega)
      have Hb2 := Lib.hid (show (i + 1) * 8 ≤ 140737488355328 by omega)
      go_wp2_with fail
      refine (l1Below_any k 19 _ Hcu.out (by omega) (by omega)).mono ?_
      rintro e w1 ⟨x0, rfl, hx0, hc1, hf1⟩
      have hs1 := hf1.size
      have Ho1 := Lib.hid (Ho.out.frm hf1 (Or.inr (by omega)))
      have Hofn1 := Lib.hid (Hofn.out.frm hf1 (Or.inr (by omega)))
      have Hc1 := Lib.hid hc1
      have Hf1 := Lib.hid (Hf.out.trans hf1)
      clear hc1 hf1
      rw [Hcl.out] at Ho1
      go_wp2_with fail
      go_loopg [6] 4 (fun g s6 wr => ∃ x : Int, s6 = .int .i64 x ∧ -9 ≤ x ∧ x ≤ 9 ∧ Hid (∃ j, j < g ∧ cycN j x ∉ cs) ∧ Hid (Qt w1 wr))
      case atStart => exact ⟨(x0 : Int) - 9, by go_num, by omega, by omega, Lib.hid (cyc_free ⟨by omega, by omega⟩ (by rw [Hcl.out]; omega)), Lib.hid (Qt.refl _)⟩
      case round =>
        obtain ⟨x, rfl, hx1, hx2, hfr, hq⟩ := hrel
        obtain ⟨wy, rfl⟩ : ∃ x : World, x = wr := ⟨_, rfl⟩
        have Hfr := Lib.hid hfr.out
        have Hq := Lib.hid hq.out
        obtain ⟨bb, hbb⟩ : ∃ bb, bb = decide (x ∈ cs) := ⟨_, rfl⟩
        have Hbb := Lib.hid hbb
        clear hfr hq hbb
        go_wp2_with fail
        refine (l1Has_any _ cs x _ (Ho1.out.ints.qt Hq.out)).mono ?_
        rintro e w2 ⟨rfl, hq2⟩
        rw [← Hbb.out]
        have Hq2 := Lib.hid (Hq.out.trans hq2)
        clear hq2
        cases bb with
        | true =>
          have hin : x ∈ cs := of_decide_eq_true Hbb.out.symm
          obtain ⟨j, hj, hjn⟩ := Hfr.out
          have hj0 : ∃ i, j = i + 1 := by
            cases j with
            | zero => exact absurd hin hjn
            | succ i => exact ⟨i, rfl⟩
          obtain ⟨j', rfl⟩ := hj0
          have hcr := cyc_rng x
          have Hc := Lib.hid (show ∃ j, j < gk - 1 ∧ cycN j (cyc x) ∉ cs from ⟨j', by omega, hjn⟩)
          have hcy : cyc x = (x + 10) % 19 - 9 := rfl
          have hx10 : 0 ≤ x + 10 := by omega
          clear hin hjn
          go_wp2_with fail
          go_roundg (gk - 1)
          case measure => omega
          case rel =>
            exact ⟨cyc x, by rw [hcy], hcr.1, hcr.2, Hc, Hq2⟩
        | false =>
          have Hnin := Lib.hid (show x ∉ cs from of_decide_eq_false Hbb.out.symm)
          clear Hbb
          have Hofn2 := Lib.hid (Hofn1.out.below (Hq2.out.below _))
          have Hsq := Lib.hid Hq2.out.size
          have hsq1 : w.heap.size ≤ w2.heap.size := by rw [Hsq.out]; omega
          have hsq2 : wx.heap.size ≤ w2.heap.size := by rw [Hsq.out]; omega
          go_wp2_with (at_builtin; go_must (refine wpList_append_F rfl (.tmp 22) (.tmp 24) 22 rfl 3 (.int .i64 0) 8 Try.underlying22 info_int rfl w.heap.size wx.heap.size _ i (iv cs) rfl (Hofn2.out.below (below_alloc w2 _)) (by rw [size_alloc]; omega) (by rw [size_alloc]; omega) _ 1 _ rfl (rd_one _ _ _ rfl) (fun j _ => rfl) Hb1.out Hb2.out ?_; intro v3 w3 ho3 hg3))
          go_roundg (n - (i + 1))
          case measure => omega
          case rel =>
            have hbx : Below w.heap.size w2 w3 := ((below_alloc w2 _).mono (by omega)).trans (grownBy_below hg3 Hofn2.out.blocks (Nat.le_refl _) (by rw [size_alloc]; omega))
            have hb1 : Below w.heap.size w1 w3 := (Hq2.out.below _).trans hbx
            refine ⟨i + 1, cs ++ [x], by omega, rfl, Lib.hid (by rw [List.length_append, Hcl.out]; rfl), Lib.hid ?_, Lib.hid ?_, Lib.hid ?_, Lib.hid (Hc1.out.keepB hb1 hk), Lib.hid (Hf1.out.thenB hb1 (Nat.le_refl _))⟩
            · rw [List.nodup_append]
              exact ⟨Hnd.out, by simp, fun a ha b hb e => by
                rw [List.mem_singleton] at hb
                exact Hnin.out (by rw [← hb, ← e]; exact ha)⟩
            · intro z hz
              rcases List.mem_append.1 hz with hz | hz
              · exact Hrg.out z hz
              · rw [List.mem_singleton] at hz; omega
            · exact OwnI.snoc1 (by rw [Hcl.out]; exact ho3)
    · obtain rfl : i = n := by omega
      have hlt2 : ¬ (i : Int) < (i : Int) := by omega
      go_wp2_with fail
      go_ret
      first | exact ⟨_, rfl, cs, by rw [Hcl.out] at Ho; exact Ho.out, Hcl.out, Hnd.out, Hrg.out, Hcu.out, Hf.out⟩ | exact ⟨_, cs, rfl, by rw [Hcl.out] at Ho; exact Ho.out, Hcl.out, Hnd.out, Hrg.out, Hcu.out, Hf.out⟩

theorem below_of_drew' {w w' : World} (h : Below w.drew.heap.size w.drew w') : Below w.heap.size w w' := ⟨h.os, h.tape, h.output, h.size, h.block⟩
theorem own_tk {T : TypeId} {w w0 : World} {hi n : Nat} {v : Value} {xs : List Int} (h : OwnI T w w0.drew.heap.size hi v xs) (hl : xs.length = n) : OwnF w w0.heap.size hi T v n (iv xs) := by
  subst hl
  exact h.fn
theorem rise_own {T : TypeId} {w : World} {lo hi t l n : Nat} {v : Value} {zs : List Int} {y : Int} {F : Nat → Value} (h : OwnF w lo hi T v (t + 1 + l) (fun j => if j < t + 1 then F j else iv (zs.drop t) (j - (t + 1)))) (ht : (zs.take t).length = t) (hl : (zs.drop t).length = l) (hn : t + 1 + l = n)
    (hF : F = fun j => if j < t then iv (zs.take t) j else .int .i64 y := by rfl) : ∃ g k, v = .slice (some ⟨g, 0, none⟩) n k ∧ OwnI T w lo hi (.slice (some ⟨g, 0, none⟩) n k) (zs.take t ++ y :: zs.drop t) := by
  subst hF
  have hlen : (zs.take t ++ y :: zs.drop t).length = t + 1 + l := by rw [List.length_append, List.length_cons, ht, hl]; omega
  have ho : OwnI T w lo hi v (zs.take t ++ y :: zs.drop t) := by
    refine OwnF.ints ?_
    rw [hlen]
    refine h.congr fun j hj => ?_
    have e : ∀ a b : Value, a = b → a = b := fun _ _ h => h
    unfold iv
    by_cases h1 : j < t + 1
    · rw [if_pos h1]
      dsimp only
      by_cases h2 : j < t
      · rw [if_pos h2]
        simp only [List.getD_eq_getElem?_getD]
        rw [List.getElem?_append_left (by rw [ht]; exact h2)]
      · rw [if_neg h2]
        have h3 : j = t := by omega
        simp only [List.getD_eq_getElem?_getD]
        rw [List.getElem?_append_right (by rw [ht]; omega), ht, h3, Nat.sub_self]
        rfl
    · rw [if_neg h1]
      simp only [List.getD_eq_getElem?_getD]
      rw [List.getElem?_append_right (by rw [ht]; omega), ht, show j - t = (j - (t + 1)) + 1 by omega, List.getElem?_cons_succ]
  obtain ⟨p, cap, rfl, _, _, hx⟩ := ho.fn.shape
  obtain ⟨g, rfl, _⟩ := hx (by omega)
  rw [hlen, hn] at ho
  rw [hlen, hn]
  exact ⟨g, cap, rfl, ho⟩
theorem rise_perm {zs ys : List Int} {i t : Nat} {y : Int} (h : zs.Perm (ys.take i)) (hi : i < ys.length) (hy : y = ys.getD i 0) : (zs.take t ++ y :: zs.drop t).Perm (ys.take (i + 1)) := by
  have e : ys.take (i + 1) = ys.take i ++ [y] := by rw [hy, getD_lt hi, List.take_append_getElem]
  rw [e]
  refine List.perm_middle.trans ?_
  rw [List.take_append_drop]
  refine (List.Perm.cons y h).trans ?_
  exact (List.perm_append_singleton y _).symm
theorem own_tk2 {T : TypeId} {w w0 : World} {o : Obj} {hi n : Nat} {v : Value} {xs : List Int} (h : OwnI T w (w0.alloc o).drew.heap.size hi v xs) (hl : xs.length = n) : OwnF w w0.heap.size hi T v n (iv xs) := by
  subst hl
  exact h.fn.mono (by show w0.heap.size ≤ (w0.alloc o).heap.size; rw [size_alloc]; omega) (Nat.le_refl _)
theorem le_alloc2 {w W : World} {B : Nat} (o : Obj) (h : B ≤ w.heap.size) (hb : Below w.heap.size w W) : B ≤ (W.alloc o).heap.size := by
  rw [size_alloc]; have := hb.size; omega
theorem keep1 {wr W W' : World} {a : Addr} {v : Value} (hb : Below W.heap.size W W') (h : W.cell? a = some v ∧ Below wr.heap.size wr W) : W'.cell? a = some v ∧ Below wr.heap.size wr W' :=
  ⟨cell_below hb h.1, below_trans h.2 hb⟩
theorem keep1B {wr W W' : World} {a : Addr} {v : Value} {B : Nat} (hb : Below B W W') (ha : a.block < B) (hw : wr.heap.size ≤ B) (h : W.cell? a = some v ∧ Below wr.heap.size wr W) : W'.cell? a = some v ∧ Below wr.heap.size wr W' :=
  ⟨by rw [hb.cell ha]; exact h.1, h.2.trans (hb.mono hw)⟩
theorem ints_drop3 {w : World} {b n cap c : Nat} {xs : List Int} (h : Ints w (.slice (some ⟨b, 0, none⟩) n cap) xs) (hl : xs.length = n) (hc : c ≤ n) (h1 : n ≤ cap) (h2 : cap ≤ 2 ^ 63 - 1) : Ints w (.slice (if cap = c then some ⟨b, 0, none⟩ else some ⟨b, c, none⟩) (n - c) (cap - c)) (xs.drop c) := by
  by_cases e : cap = c
  · have e2 : n - c = 0 := by omega
    have e3 : xs.drop c = [] := List.drop_eq_nil_iff.2 (by omega)
    rw [if_pos e, e2, e3]
    exact ⟨_, _, rfl, ⟨Nat.zero_le _, by unfold maxLen; omega⟩, fun h => absurd h (Nat.lt_irrefl _)⟩
  · rw [if_neg e]
    unfold Ints at h ⊢
    rw [hl] at h
    have := Rd.part h c (n - c) (cap - c) (by omega) (by omega) (by unfold maxLen; omega)
    rw [Nat.zero_add] at this
    rw [List.length_drop, hl]
    exact this.congr fun j hj => by simp [iv, List.getD_eq_getElem?_getD]
theorem ints_takeP2' {w : World} {p : Option Addr} {n t cap : Nat} {xs : List Int} (h : Ints w (.slice p n cap) xs) (hl : xs.length = n) (ht : t ≤ n) : Ints w (.slice p t cap) (xs.take t) := by
  subst hl
  exact h.take t ht
theorem ints_drop2 {w : World} {b n cap c : Nat} {xs : List Int} (h : Ints w (.slice (some ⟨b, 0, none⟩) n cap) xs) (hl : xs.length = n) (hc : c ≤ n) (h1 : n ≤ cap) (h2 : cap ≤ 2 ^ 63 - 1) : Ints w (.slice (some ⟨b, c, none⟩) (n - c) (cap - c)) (xs.drop c) := by
  unfold Ints at h ⊢
  rw [hl] at h
  have := Rd.part h c (n - c) (cap - c) (by omega) (by omega) (by unfold maxLen; omega)
  rw [Nat.zero_add] at this
  rw [List.length_drop, hl]
  exact this.congr fun j hj => by simp [iv, List.getD_eq_getElem?_getD]

set_option maxRecDepth 100000 in
set_option maxHeartbeats 4000000 in
/-- the same numbers, ascending -/
theorem dRise_any (v : Value) (ys : List Int) (w : World) (h : Ints w v ys) (h4 : ys.length ≤ 4) :
    Calls Try.prog 47 #[v] w fun e w' => ∃ (u : Value) (zs : List Int), e = .returned u ∧ OwnI 3 w' w.heap.size w'.heap.size u zs ∧ zs.Perm ys ∧ Below w.heap.size w w' := by
  have Hh := Lib.hid h
  obtain ⟨pv, cv, rfl, ⟨hv1, hv2⟩, hvc⟩ := h
  unfold maxLen at hv2
  have Hvc := Lib.hid hvc
  clear hvc
  go_enter Try.func47, Try.ntmps47
  go_wp2_with fail
  go_loopg [3, 4] ys.length (fun g s3 s4 wr => ∃ (i : Nat) (zs : List Int) (g0 k3 : Nat), i ≤ ys.length ∧ g = ys.length - i ∧ s4 = .int .i64 (i : Int) ∧ s3 = .slice (some ⟨g0, 0, none⟩) i k3 ∧ Hid (zs.Perm (ys.take i)) ∧ Hid (OwnI 3 wr w.heap.size wr.heap.size (.slice (some ⟨g0, 0, none⟩) i k3) zs) ∧ Hid (Below w.heap.size w wr))
  case atStart =>
    refine ⟨0, [], w.heap.size, 0, Nat.zero_le _, rfl, rfl, rfl, Lib.hid (by simp), ?_, Lib.hid (below_alloc w _)⟩
    exact OwnF.ints ((OwnF.made0 w 3 (iv [])).mono (Nat.le_refl _) (by simp))
  case round =>
    obtain ⟨i, zs, g0, k3, hi, rfl, rfl, rfl, hpm, ho, hb⟩ := hrel
    obtain ⟨wx, rfl⟩ : ∃ x : World, x = wr := ⟨_, rfl⟩
    have hsr := hb.out.size
    have hm : i = zs.length := by rw [hpm.out.length_eq, List.length_take]; omega
    have Hm := Lib.hid hm
    obtain ⟨_, _, e3, hk3, hk33⟩ := ho.out.shape
    injection e3 with e31 e32 e33
    subst e33
    rw [← hm] at hk3
    unfold maxLen at hk33
    have Ho := Lib.hid ho.out
    have Hpm := Lib.hid hpm.out
    have Hb := Lib.hid hb.out
    clear ho hpm hb hm e31 e32
    by_cases hlt : i < ys.length
    · have hlt2 : (i : Int) < (ys.length : Int) := by omega
      obtain ⟨bv, ov, rfl, hc⟩ := Hvc.out (by omega)
      obtain ⟨y, hy⟩ : ∃ y, y = ys.getD i 0 := ⟨_, rfl⟩
      have c1 := cell_below Hb.out (hc i hlt)
      unfold iv at c1
      rw [← hy] at c1
      have Hy := Lib.hid hy
      clear hc hy
      go_wp2_with fail
      go_loopg [5] (i + 1) (fun g s5 wr => ∃ t : Nat, t ≤ i ∧ g = t + 1 ∧ s5 = .int .i64 (t : Int) ∧ Qt wx wr)
      case atStart => exact ⟨i, Nat.le_refl _, rfl, rfl, Qt.refl _⟩
      case round =>
        obtain ⟨t, ht, rfl, rfl, hq⟩ := hrel
        obtain ⟨wy, rfl⟩ : ∃ x : World, x = wr := ⟨_, rfl⟩
        have Hq := Lib.hid hq
        have d1 := hq.cell c1
        clear hq
        have hti : (t : Int) ≤ (i : Int) := by omega
        by_cases ht0 : t = 0
        · subst ht0
          go_wp2_with fail
          go_quiet (fail)
          have Hq1 := Lib.hid (Hq.out.drewN nq)
          generalize wy.drewN nq = wz at *
          have d2 := Hq1.out.cell c1
          clear d1 c1
          have HO := Lib.hid (Ho.out.below (Hq1.out.below _))
          have hsz := Hq1.out.size
          have hw0 : w.heap.size ≤ wz.heap.size := by omega
          have Hsz := Lib.hid hsz
          have hbz : Below wz.heap.size wz wz.drew := (Below.refl _ _).drew
          have hbz2 : Below wz.heap.size wz (wz.alloc (.cells #[.int .i64 y] 3)).drew := (below_alloc wz _).drew
          have hrd2 := Lib.hid (show Rd (wz.alloc (.cells #[.int .i64 y] 3)).drew (.slice (some ⟨wz.heap.size, 0, none⟩) 1 1) 1 (fun _ => .int .i64 y) from rd_one wz _ _ rfl)
          have hbv : bv < wz.heap.size := World.block_lt_of_cell? _ _ d2
          clear hsz
          have hI1 := Lib.hid (ints_takeP2' (t := 0) HO.out.ints Hm.out.symm (Nat.zero_le _))
          have HR2 := Lib.hid (show Rd wz (.slice (some ⟨g0, 0, none⟩) i k3) i (iv (zs.drop 0)) from by
            have := HO.out.ints
            unfold Ints at this
            rwa [← Hm.out] at this)
          have Htk3 := Lib.hid (show (zs.take 0).length ≤ 1000000 by simp)
          have Htk := Lib.hid (show (zs.take 0).length = 0 by simp)
          have HL2 := Lib.hid (show (zs.drop 0).length = i by rw [List.length_drop, ← Hm.out]; rfl)
          have Hm1 := Lib.hid (show 0 + 1 ≤ maxLen by unfold maxLen; omega)
          have Hm2 := Lib.hid (show (0 + 1) * 8 ≤ 140737488355328 by omega)
          have Hm3 := Lib.hid (show 0 + 1 + i ≤ maxLen by unfold maxLen; omega)
          have Hm4 := Lib.hid (show (0 + 1 + i) * 8 ≤ 140737488355328 by omega)
          have hcp : (0 : Int) ≤ (k3 : Int) := by omega
          go_wp2_with fail
          go_region_held3 (fun w' => w'.cell? ⟨bv, ov + i, none⟩ = some (.int .i64 y) ∧ Below wz.heap.size wz w')
            (first | with_reducible assumption | exact ⟨d2, (Below.refl _ _).drew⟩ | exact ⟨cell_below hbz2 d2, hbz2⟩ | exact keep1 hb4 (by assumption) | exact keep1 (below_alloc _ _) (by assumption) | exact keep1B hb5 hbv (Nat.le_refl _) (by assumption) | exact keep1B hb6 hbv (Nat.le_refl _) (by assumption))
            (first
              | (go_at_call 63; refine (l1Ints_any _ (zs.take 0) _ (hI1.out.below hbz) Htk3.out).mono ?_; rintro e w4 ⟨u4, rfl, ho4, hb4⟩; have hofn4 := own_tk ho4 Htk.out; have hz4 : Below wz.heap.size wz w4 := below_of_drew' hb4)
              | (go_at_call 63; refine (l1Ints_any _ (zs.take 0) _ (hI1.out.below hbz2) Htk3.out).mono ?_; rintro e w4 ⟨u4, rfl, ho4, hb4⟩; have hofn4 := own_tk2 ho4 Htk.out; have hz4 := hbz2.trans (hb4.mono hbz2.size); have hrd := hrd2.out.below hb4)
              | (refine step_append_F rfl (.tmp 34) (.tmp 39) 22 rfl 3 (.int .i64 0) 8 Try.underlying22 info_int rfl wz.heap.size _ _ 0 _ rfl (hofn4.below (below_alloc _ _)) (le_alloc2 _ (Nat.le_refl _) hz4) (le_alloc2 _ (Nat.le_refl _) (Below.refl _ _)) _ 1 _ rfl (rd_one _ _ _ rfl) (fun j _ => rfl) Hm1.out Hm2.out ?_; intro v5 w5 ho5 hg5; have hb5 := grownBy_below2 hg5 (hofn4.below (below_alloc _ _)) (Nat.le_refl _) (le_alloc2 _ (Nat.le_refl _) hz4); have hB5 := (hz4.trans ((below_alloc _ _).mono hz4.size)).trans hb5; have hs5 := hB5.size)
              | (refine step_append_F rfl (.tmp 34) (.tmp 39) 22 rfl 3 (.int .i64 0) 8 Try.underlying22 info_int rfl wz.heap.size _ _ 0 _ rfl hofn4 hz4.size (Nat.le_refl _) _ 1 _ rfl hrd (fun j _ => rfl) Hm1.out Hm2.out ?_; intro v5 w5 ho5 hg5; have hb5 := grownBy_below2 hg5 hofn4 (Nat.le_refl _) hz4.size; have hB5 := hz4.trans hb5; have hs5 := hB5.size)
              | (refine step_append_F rfl (.tmp 40) (.tmp 43) 22 rfl 3 (.int .i64 0) 8 Try.underlying22 info_int rfl wz.heap.size _ _ (0 + 1) _ rfl ho5 hs5 (Nat.le_refl _) _ i (iv (zs.drop 0)) rfl (HR2.out.below hB5) (fun j _ => rfl) Hm3.out Hm4.out ?_; intro v6 w6 ho6 hg6; have hb6 := grownBy_below2 hg6 ho5 (Nat.le_refl _) hs5; have hB6 := hB5.trans hb6))
          all_goals (
            obtain ⟨g6, k6, rfl, ho7⟩ := rise_own (n := i + 1) ho6 Htk.out HL2.out (by omega)
            have Ho7 := Lib.hid (ho7.mono hw0 (Nat.le_refl _))
            have HB7 := Lib.hid ((Hb.out.trans ((Hq1.out.below _).mono hsr)).trans (hB6.mono hw0))
            clear ho6 hg6 ho5 hg5 ho7 hb6 hB6 hb5 hB5 hz4 hb4 hofn4 ho4
            go_wp2_with fail
            go_roundg (ys.length - (i + 1))
            case measure => omega
            case rel => exact ⟨i + 1, zs.take 0 ++ y :: zs.drop 0, g6, k6, by omega, rfl, by go_num, rfl, Lib.hid (rise_perm Hpm.out hlt Hy.out), Ho7.out, HB7.out⟩)
        · obtain ⟨s, rfl⟩ : ∃ s, t = s + 1 := ⟨t - 1, by omega⟩
          have hofn := Ho.out.fn
          rw [← Hm.out] at hofn
          obtain ⟨z, hz⟩ : ∃ z, z = zs.getD s 0 := ⟨_, rfl⟩
          have c2 := Hq.out.cell (hofn.cell (show s < i by omega))
          unfold iv at c2
          rw [← hz] at c2
          have Hz := Lib.hid hz
          clear hofn hz
          have hs1 : ((s + 1 : Nat) : Int) - 1 = (s : Int) := by omega
          have hsi : (s : Int) < (i : Int) := by omega
          have hs0 : (0 : Int) < ((s + 1 : Nat) : Int) := by omega
          by_cases hzy : y < z
          · go_wp2_with fail
            go_quiet (fail)
            have Hq1 := Lib.hid (Hq.out.drewN nq)
            go_wp2_with fail
            go_roundg (s + 1)
            case measure => omega
            case rel => exact ⟨s, by omega, rfl, by go_num, Hq1.out⟩
          · go_wp2_with fail
            go_quiet (fail)
            have Hq1 := Lib.hid (Hq.out.drewN nq)
            generalize wy.drewN nq = wz at *
            have d2 := Hq1.out.cell c1
            obtain ⟨t, ht2⟩ : ∃ t, t = s + 1 := ⟨_, rfl⟩
            have ht3 : (s : Int) + 1 = (t : Int) := by omega
            rw [← ht2] at ht
            rw [ht3]
            clear ht3
            clear d1 c1 hs1 hsi hs0 c2 ht2 Hz
            have HO := Lib.hid (Ho.out.below (Hq1.out.below _))
            have hsz := Hq1.out.size
            have hw0 : w.heap.size ≤ wz.heap.size := by omega
            have Hsz := Lib.hid hsz
            have hbz : Below wz.heap.size wz wz.drew := (Below.refl _ _).drew
            have hbz2 : Below wz.heap.size wz (wz.alloc (.cells #[.int .i64 y] 3)).drew := (below_alloc wz _).drew
            have hrd2 := Lib.hid (show Rd (wz.alloc (.cells #[.int .i64 y] 3)).drew (.slice (some ⟨wz.heap.size, 0, none⟩) 1 1) 1 (fun _ => .int .i64 y) from rd_one wz _ _ rfl)
            have hbv : bv < wz.heap.size := World.block_lt_of_cell? _ _ d2
            clear hsz
            by_cases hkt : k3 = t
            · obtain rfl : t = i := by omega
              obtain rfl : k3 = t := hkt
              have hI1 := Lib.hid (ints_takeP2' HO.out.ints Hm.out.symm ht)
              have hI2 := Lib.hid (show Ints wz (.slice (some ⟨g0, 0, none⟩) 0 0) (zs.drop k3) from by
                rw [List.drop_eq_nil_iff.2 (Nat.le_of_eq Hm.out.symm)]
                exact ⟨_, _, rfl, ⟨Nat.le_refl _, Nat.zero_le _⟩, fun h => absurd h (Nat.lt_irrefl _)⟩)
              have Htk3 := Lib.hid (show (zs.take k3).length ≤ 1000000 by rw [List.length_take]; omega)
              have Htk := Lib.hid (show (zs.take k3).length = k3 by rw [List.length_take, ← Hm.out]; omega)
              have HR2 := Lib.hid (show Rd wz (.slice (some ⟨g0, 0, none⟩) 0 0) 0 (iv (zs.drop k3)) from ⟨_, _, rfl, ⟨Nat.le_refl _, Nat.zero_le _⟩, fun h => absurd h (Nat.lt_irrefl _)⟩)
              have HL2 := Lib.hid (show (zs.drop k3).length = 0 by rw [List.length_drop, ← Hm.out]; omega)
              have HN : Hid (k3 + 1 + 0 = k3 + 1) := Lib.hid rfl
              have Hm1 := Lib.hid (show k3 + 1 ≤ maxLen by unfold maxLen; omega)
              have Hm2 := Lib.hid (show (k3 + 1) * 8 ≤ 140737488355328 by omega)
              have Hm3 := Lib.hid (show k3 + 1 + 0 ≤ maxLen by unfold maxLen; omega)
              have Hm4 := Lib.hid (show (k3 + 1 + 0) * 8 ≤ 140737488355328 by omega)
              go_wp2_with fail
              go_region_held3 (fun w' => w'.cell? ⟨bv, ov + k3, none⟩ = some (.int .i64 y) ∧ Below wz.heap.size wz w')
                (first | with_reducible assumption | exact ⟨d2, (Below.refl _ _).drew⟩ | exact ⟨cell_below hbz2 d2, hbz2⟩ | exact keep1 hb4 (by assumption) | exact keep1 (below_alloc _ _) (by assumption) | exact keep1B hb5 hbv (Nat.le_refl _) (by assumption) | exact keep1B hb6 hbv (Nat.le_refl _) (by assumption))
                (first
                  | (go_at_call 63; refine (l1Ints_any _ (zs.take k3) _ (hI1.out.below hbz) Htk3.out).mono ?_; rintro e w4 ⟨u4, rfl, ho4, hb4⟩; have hofn4 := own_tk ho4 Htk.out; have hz4 : Below wz.heap.size wz w4 := below_of_drew' hb4)
                  | (go_at_call 63; refine (l1Ints_any _ (zs.take k3) _ (hI1.out.below hbz2) Htk3.out).mono ?_; rintro e w4 ⟨u4, rfl, ho4, hb4⟩; have hofn4 := own_tk2 ho4 Htk.out; have hz4 := hbz2.trans (hb4.mono hbz2.size); have hrd := hrd2.out.below hb4)
                  | (refine step_append_F rfl (.tmp 34) (.tmp 39) 22 rfl 3 (.int .i64 0) 8 Try.underlying22 info_int rfl wz.heap.size _ _ k3 _ rfl (hofn4.below (below_alloc _ _)) (le_alloc2 _ (Nat.le_refl _) hz4) (le_alloc2 _ (Nat.le_refl _) (Below.refl _ _)) _ 1 _ rfl (rd_one _ _ _ rfl) (fun j _ => rfl) Hm1.out Hm2.out ?_; intro v5 w5 ho5 hg5; have hb5 := grownBy_below2 hg5 (hofn4.below (below_alloc _ _)) (Nat.le_refl _) (le_alloc2 _ (Nat.le_refl _) hz4); have hB5 := (hz4.trans ((below_alloc _ _).mono hz4.size)).trans hb5; have hs5 := hB5.size)
                  | (refine step_append_F rfl (.tmp 34) (.tmp 39) 22 rfl 3 (.int .i64 0) 8 Try.underlying22 info_int rfl wz.heap.size _ _ k3 _ rfl hofn4 hz4.size (Nat.le_refl _) _ 1 _ rfl hrd (fun j _ => rfl) Hm1.out Hm2.out ?_; intro v5 w5 ho5 hg5; have hb5 := grownBy_below2 hg5 hofn4 (Nat.le_refl _) hz4.size; have hB5 := hz4.trans hb5; have hs5 := hB5.size)
                  | (refine step_append_F rfl (.tmp 40) (.tmp 43) 22 rfl 3 (.int .i64 0) 8 Try.underlying22 info_int rfl wz.heap.size _ _ (k3 + 1) _ rfl ho5 hs5 (Nat.le_refl _) _ 0 (iv (zs.drop k3)) rfl (HR2.out.below hB5) (fun j _ => rfl) Hm3.out Hm4.out ?_; intro v6 w6 ho6 hg6; have hb6 := grownBy_below2 hg6 ho5 (Nat.le_refl _) hs5; have hB6 := hB5.trans hb6))
              all_goals (
                obtain ⟨g6, k6, rfl, ho7⟩ := rise_own (n := k3 + 1) ho6 Htk.out HL2.out (by omega)
                have Ho7 := Lib.hid (ho7.mono hw0 (Nat.le_refl _))
                have HB7 := Lib.hid ((Hb.out.trans ((Hq1.out.below _).mono hsr)).trans (hB6.mono hw0))
                clear ho6 hg6 ho5 hg5 ho7 hb6 hB6 hb5 hB5 hz4 hb4 hofn4 ho4
                go_wp2_with fail
                go_roundg (ys.length - (k3 + 1))
                case measure => omega
                case rel => exact ⟨k3 + 1, zs.take k3 ++ y :: zs.drop k3, g6, k6, by omega, rfl, by go_num, rfl, Lib.hid (rise_perm Hpm.out hlt Hy.out), Ho7.out, HB7.out⟩)
            · have hI1 := Lib.hid (ints_takeP2' HO.out.ints Hm.out.symm ht)
              have hI2 := Lib.hid (ints_drop2 HO.out.ints Hm.out.symm ht hk3 hk33)
              have Htk3 := Lib.hid (show (zs.take t).length ≤ 1000000 by rw [List.length_take]; omega)
              have Htk := Lib.hid (show (zs.take t).length = t by rw [List.length_take, ← Hm.out]; omega)
              have HR2 := Lib.hid (show Rd wz (.slice (some ⟨g0, t, none⟩) (i - t) (k3 - t)) (i - t) (iv (zs.drop t)) from by
                have := hI2.out
                unfold Ints at this
                rwa [List.length_drop, ← Hm.out] at this)
              have HL2 := Lib.hid (show (zs.drop t).length = i - t by rw [List.length_drop, ← Hm.out])
              have HN : Hid (t + 1 + (i - t) = i + 1) := Lib.hid (by omega)
              have Hm1 := Lib.hid (show t + 1 ≤ maxLen by unfold maxLen; omega)
              have Hm2 := Lib.hid (show (t + 1) * 8 ≤ 140737488355328 by omega)
              have Hm3 := Lib.hid (show t + 1 + (i - t) ≤ maxLen by unfold maxLen; omega)
              have Hm4 := Lib.hid (show (t + 1 + (i - t)) * 8 ≤ 140737488355328 by omega)
              have hcp : (t : Int) ≤ (k3 : Int) := by omega
              go_wp2_with fail
              go_region_held3 (fun w' => w'.cell? ⟨bv, ov + i, none⟩ = some (.int .i64 y) ∧ Below wz.heap.size wz w')
                (first | with_reducible assumption | exact ⟨d2, (Below.refl _ _).drew⟩ | exact ⟨cell_below hbz2 d2, hbz2⟩ | exact keep1 hb4 (by assumption) | exact keep1 (below_alloc _ _) (by assumption) | exact keep1B hb5 hbv (Nat.le_refl _) (by assumption) | exact keep1B hb6 hbv (Nat.le_refl _) (by assumption))
                (first
                  | (go_at_call 63; refine (l1Ints_any _ (zs.take t) _ (hI1.out.below hbz) Htk3.out).mono ?_; rintro e w4 ⟨u4, rfl, ho4, hb4⟩; have hofn4 := own_tk ho4 Htk.out; have hz4 : Below wz.heap.size wz w4 := below_of_drew' hb4)
                  | (go_at_call 63; refine (l1Ints_any _ (zs.take t) _ (hI1.out.below hbz2) Htk3.out).mono ?_; rintro e w4 ⟨u4, rfl, ho4, hb4⟩; have hofn4 := own_tk2 ho4 Htk.out; have hz4 := hbz2.trans (hb4.mono hbz2.size); have hrd := hrd2.out.below hb4)
                  | (refine step_append_F rfl (.tmp 34) (.tmp 39) 22 rfl 3 (.int .i64 0) 8 Try.underlying22 info_int rfl wz.heap.size _ _ t _ rfl (hofn4.below (below_alloc _ _)) (le_alloc2 _ (Nat.le_refl _) hz4) (le_alloc2 _ (Nat.le_refl _) (Below.refl _ _)) _ 1 _ rfl (rd_one _ _ _ rfl) (fun j _ => rfl) Hm1.out Hm2.out ?_; intro v5 w5 ho5 hg5; have hb5 := grownBy_below2 hg5 (hofn4.below (below_alloc _ _)) (Nat.le_refl _) (le_alloc2 _ (Nat.le_refl _) hz4); have hB5 := (hz4.trans ((below_alloc _ _).mono hz4.size)).trans hb5; have hs5 := hB5.size)
                  | (refine step_append_F rfl (.tmp 34) (.tmp 39) 22 rfl 3 (.int .i64 0) 8 Try.underlying22 info_int rfl wz.heap.size _ _ t _ rfl hofn4 hz4.size (Nat.le_refl _) _ 1 _ rfl hrd (fun j _ => rfl) Hm1.out Hm2.out ?_; intro v5 w5 ho5 hg5; have hb5 := grownBy_below2 hg5 hofn4 (Nat.le_refl _) hz4.size; have hB5 := hz4.trans hb5; have hs5 := hB5.size)
                  | (refine step_append_F rfl (.tmp 40) (.tmp 43) 22 rfl 3 (.int .i64 0) 8 Try.underlying22 info_int rfl wz.heap.size _ _ (t + 1) _ rfl ho5 hs5 (Nat.le_refl _) _ (i - t) (iv (zs.drop t)) rfl (HR2.out.below hB5) (fun j _ => rfl) Hm3.out Hm4.out ?_; intro v6 w6 ho6 hg6; have hb6 := grownBy_below2 hg6 ho5 (Nat.le_refl _) hs5; have hB6 := hB5.trans hb6))
              all_goals (
                obtain ⟨g6, k6, rfl, ho7⟩ := rise_own (n := i + 1) ho6 Htk.out HL2.out (by omega)
                have Ho7 := Lib.hid (ho7.mono hw0 (Nat.le_refl _))
                have HB7 := Lib.hid ((Hb.out.trans ((Hq1.out.below _).mono hsr)).trans (hB6.mono hw0))
                clear ho6 hg6 ho5 hg5 ho7 hb6 hB6 hb5 hB5 hz4 hb4 hofn4 ho4
                go_wp2_with fail
                go_roundg (ys.length - (i + 1))
                case measure => omega
                case rel => exact ⟨i + 1, zs.take t ++ y :: zs.drop t, g6, k6, by omega, rfl, by go_num, rfl, Lib.hid (rise_perm Hpm.out hlt Hy.out), Ho7.out, HB7.out⟩)
    · obtain rfl : i = ys.length := by omega
      have hlt2 : ¬ (ys.length : Int) < (ys.length : Int) := by omega
      go_wp2_with fail
      go_ret
      have hpf := Hpm.out
      rw [List.take_length] at hpf
      first | exact ⟨_, rfl, zs, Ho.out, hpf, Hb.out⟩ | exact ⟨_, zs, rfl, Ho.out, hpf, Hb.out⟩

end Go.Proofs.Ytajmoclnmphmgaa

namespace Go.Proofs.Ytajmoclnmphmgaa
set_option linter.all false
open Go.RowKit

set_option maxRecDepth 100000 in
set_option maxHeartbeats 8000000 in
theorem DrawPairs_any (v : Value) (l : Nat) (w : World) (h : Byts w v l) :
    Calls Try.prog 18 #[v] w fun e w' =>
      ∃ (u1 u2 u3 : Value) (xs zs ys : List Int) (n : Nat), e = .returned (.tuple #[u1, u2, u3]) ∧ Ints w' u1 xs ∧ Ints w' u2 zs ∧ Ints w' u3 ys ∧ P5 n xs ∧ P5 n zs ∧ ys.length = n ∧ ys.Nodup ∧ (∀ y ∈ ys, -9 ≤ y ∧ y ≤ 9) ∧ 1 ≤ n ∧ n ≤ 4 ∧ Below w.heap.size w w' := by
  have Hh := Lib.hid h
  obtain ⟨_, _, cap, rfl, _⟩ := h
  go_enter Try.func18, Try.ntmps18
  go_wp2_with fail
  refine (l1New_any _ l _ Hh.out).mono ?_
  rintro e w2 ⟨rfl, hc2, hb2⟩
  have HC2 := Lib.hid hc2
  have HB2 := Lib.hid hb2
  have hk2 := hc2.lt
  clear hc2 hb2
  go_wp2_with fail
  refine (l1Below_any w.heap.size 4 _ HC2.out (by omega) (by omega)).mono ?_
  rintro e w3 ⟨m, rfl, hm, hc3, hf3⟩
  have HC3 := Lib.hid hc3
  have HB3 := Lib.hid (HB2.out.trans (hf3.below (Nat.le_refl _) (by omega)))
  have hs3 := hf3.size
  clear hc3 hf3
  have hmm : 1 + (m : Int) = ((m + 1 : Nat) : Int) := by omega
  obtain ⟨n, hn⟩ : ∃ n, n = m + 1 := ⟨_, rfl⟩
  rw [← hn] at hmm
  have Hmm := Lib.hid hmm
  have hn1 : 1 ≤ n := by omega
  have hn4 : n ≤ 4 := by omega
  clear hn hmm
  go_wp2_with fail
  rw [Hmm.out]
  refine (dApart_any w.heap.size n _ HC3.out (by omega)).mono ?_
  rintro e w4 ⟨u3, ys, rfl, ho4, hl4, hd4, hr4, hc4, hf4⟩
  have HY4 := Lib.hid ho4
  have HL := Lib.hid hl4
  have HD := Lib.hid hd4
  have HR := Lib.hid hr4
  have HC4 := Lib.hid hc4
  have HB4 := Lib.hid (HB3.out.trans (hf4.below (Nat.le_refl _) (by omega)))
  have hs4 := hf4.size
  clear ho4 hl4 hd4 hr4 hc4 hf4
  go_wp2_with fail
  refine (l1Once_any w.heap.size 2 _ HC4.out (by omega) (by omega)).mono ?_
  rintro e w5 ⟨b, rfl, hc5, hf5⟩
  have HC5 := Lib.hid hc5
  have HB5 := Lib.hid (HB4.out.trans (hf5.below (Nat.le_refl _) (by omega)))
  have HY5 := Lib.hid (HY4.out.frm hf5 (Or.inr (by omega)))
  have hs5 := hf5.size
  clear hc5 hf5
  cases b with
  | false =>
    go_wp2_with fail
    refine (dPerm_any w.heap.size n _ HC5.out (by omega) (by omega)).mono ?_
    rintro e w6 ⟨u1, xs, rfl, ho1, hp1, hl1, hc6, hf6⟩
    have HX6 := Lib.hid ho1
    have HP1 := Lib.hid (show P5 n xs from ⟨hp1, hl1, by omega⟩)
    have HC6 := Lib.hid hc6
    have HB6 := Lib.hid (HB5.out.trans (hf6.below (Nat.le_refl _) (by omega)))
    have HY6 := Lib.hid (HY5.out.frm hf6 (Or.inr (by omega)))
    have hs6 := hf6.size
    clear ho1 hp1 hl1 hc6 hf6
    go_wp2_with fail
    refine (dPerm_any w.heap.size n _ HC6.out (by omega) (by omega)).mono ?_
    rintro e w7 ⟨u2, zs, rfl, ho2, hp2, hl2, hc7, hf7⟩
    have HZ7 := Lib.hid ho2
    have HP2 := Lib.hid (show P5 n zs from ⟨hp2, hl2, by omega⟩)
    have HB7 := Lib.hid (HB6.out.trans (hf7.below (Nat.le_refl _) (by omega)))
    have HY7 := Lib.hid (HY6.out.frm hf7 (Or.inr (by omega)))
    have HX7 := Lib.hid (HX6.out.frm hf7 (Or.inr (by omega)))
    clear ho2 hp2 hl2 hc7 hf7
    go_wp2_with fail
    go_ret3
    exact ⟨_, _, _, xs, zs, ys, n, rfl, HX7.out.ints, HZ7.out.ints, HY7.out.ints, HP1.out, HP2.out, HL.out, HD.out, HR.out, hn1, hn4, HB7.out⟩
  | true =>
    go_wp2_with fail
    refine (dRise_any _ ys _ HY5.out.ints (by rw [HL.out]; exact hn4)).mono ?_
    rintro e w5b ⟨u4, yr, rfl, ho5, hpm5, hb5⟩
    have HYr := Lib.hid ho5
    have HPm := Lib.hid hpm5
    have HC5b := Lib.hid (HC5.out.below hb5)
    have HB5b := Lib.hid (HB5.out.trans (hb5.mono (by omega)))
    have hs5b := hb5.size
    clear ho5 hpm5 hb5
    go_wp2_with fail
    refine (dPerm_any w.heap.size n _ HC5b.out (by omega) (by omega)).mono ?_
    rintro e w6 ⟨u1, xs, rfl, ho1, hp1, hl1, hc6, hf6⟩
    have HX6 := Lib.hid ho1
    have HP1 := Lib.hid (show P5 n xs from ⟨hp1, hl1, by omega⟩)
    have HC6 := Lib.hid hc6
    have HB6 := Lib.hid (HB5b.out.trans (hf6.below (Nat.le_refl _) (by omega)))
    have HY6 := Lib.hid (HYr.out.frm hf6 (Or.inr (by omega)))
    have hs6 := hf6.size
    clear ho1 hp1 hl1 hc6 hf6
    go_wp2_with fail
    refine (dPerm_any w.heap.size n _ HC6.out (by omega) (by omega)).mono ?_
    rintro e w7 ⟨u2, zs, rfl, ho2, hp2, hl2, hc7, hf7⟩
    have HZ7 := Lib.hid ho2
    have HP2 := Lib.hid (show P5 n zs from ⟨hp2, hl2, by omega⟩)
    have HB7 := Lib.hid (HB6.out.trans (hf7.below (Nat.le_refl _) (by omega)))
    have HY7 := Lib.hid (HY6.out.frm hf7 (Or.inr (by omega)))
    have HX7 := Lib.hid (HX6.out.frm hf7 (Or.inr (by omega)))
    clear ho2 hp2 hl2 hc7 hf7
    go_wp2_with fail
    go_ret3
    exact ⟨_, _, _, xs, zs, yr, n, rfl, HX7.out.ints, HZ7.out.ints, HY7.out.ints, HP1.out, HP2.out, (HPm.out.length_eq.trans HL.out), (HPm.out.nodup_iff.2 HD.out), (fun y hy => HR.out y (HPm.out.mem_iff.1 hy)), hn1, hn4, HB7.out⟩

end Go.Proofs.Ytajmoclnmphmgaa

namespace Go.Proofs.Ytajmoclnmphmgaa
set_option linter.all false
open Go.RowKit

theorem yOk_of2 {n : Nat} {ys : List Int} (h1 : 1 ≤ n) (h4 : n ≤ 4) (hl : ys.length = n) (h9 : ∀ y ∈ ys, -9 ≤ y ∧ y ≤ 9) (hn : ys.Nodup) : YOk n ys := by
  refine ⟨h1, h4, hl, h9, fun i j hi hj hne he => ?_⟩
  rw [getD_lt (by omega), getD_lt (by omega)] at he
  have hp := List.pairwise_iff_getElem.1 hn
  rcases Nat.lt_or_gt_of_ne hne with h | h
  · exact hp i j (by omega) (by omega) h he
  · exact hp j i (by omega) (by omega) h he.symm

set_option maxRecDepth 100000 in
set_option maxHeartbeats 16000000 in
theorem lawFnChevalley (p : Option Addr) (l cap : Nat) (w : World) (hl : l ≤ maxLen) (h : Byts8 w (.slice p l cap) l) :
    Calls Try.prog 6 #[.slice p l cap] w fun e w' => e = .returned (.bool true) ∧ Below w.heap.size w w' := by
  have Hl := Lib.hid hl
  have Hh := Lib.hid h
  clear hl h
  go_enter Try.func6, Try.ntmps6
  go_wp2_with fail
  refine (big_any p l cap _ Hl.out).mono ?_
  rintro e w' ⟨rfl, rfl⟩
  by_cases hb : 1048576 < l
  · have e1 : decide (1048576 < l) = true := by simp [hb]
    rw [e1]
    go_wp2_with fail
    go_ret
    exact ⟨rfl, Below.refl _ _⟩
  have e1 : decide (1048576 < l) = false := by simp [hb]
  rw [e1]
  have Hl2 := Lib.hid (show l ≤ 1048576 by omega)
  clear e1 hb
  go_wp2_with fail
  refine (DrawPairs_any _ l _ Hh.out.byts).mono ?_
  rintro e w1 ⟨u1, u2, u3, us, vs, ys, n, rfl, hi1, hi2, hi3, hu5, hv5, hyl, hyn, hy9, hn1, hn4, hb1⟩
  have HV := Lib.hid hi2
  have HY := Lib.hid hi3
  have Hv := Lib.hid hv5
  have YO := yOk_of2 hn1 hn4 hyl hy9 hyn
  have HYO := Lib.hid YO
  have HB1 := Lib.hid hb1
  have Hh1 := Lib.hid (Hh.out.below hb1)
  obtain ⟨au, cu, rfl, _, _⟩ := hi1
  obtain ⟨av, cv, rfl, ⟨hv1, hv2⟩, hvx⟩ := hi2
  obtain ⟨ay, cy, rfl, ⟨hy1, hy2⟩, hyx⟩ := hi3
  unfold maxLen at hv2 hy2
  rw [hv5.len] at HV hv1 ⊢
  rw [hyl] at HY hy1 ⊢
  clear hvx hyx hu5 hv5 hyl hyn hy9 hb1 YO
  by_cases hn2 : n < 2
  · have hn2i : (n : Int) < 2 := by omega
    obtain rfl : n = 1 := by omega
    have hq := implEqui_any _ _ _ vs vs ys w1 HV.out HV.out HY.out
    rw [eq_one HYO.out Hv.out] at hq
    have Hq := Lib.hid hq
    clear hq
    go_wp2_with fail
    refine Hq.out.mono ?_
    rintro e w2 ⟨ul, rfl, hol, hb2⟩
    obtain ⟨pl, kl, rfl, _, _⟩ := hol.shape
    have HB2 := Lib.hid (below_trans HB1.out hb2)
    clear hol hb2
    go_wp2_with fail
    go_ret
    exact ⟨rfl, HB2.out⟩
  have hn2i : ¬ (n : Int) < 2 := by omega
  have hn0 : ¬ ((n : Int) - 1) = 0 := by omega
  go_wp2_with fail
  refine (at0_any _ l 0 _ Hh1.out Hl2.out (by omega)).mono ?_
  rintro e w2 ⟨x, rfl, hx255, rfl⟩
  obtain ⟨k, hk, hkn⟩ : ∃ k : Nat, (x : Int).tmod ((n : Int) - 1) = (k : Int) ∧ k + 1 < n := by
    refine ⟨x % (n - 1), ?_, ?_⟩
    · rw [Int.tmod_eq_emod_of_nonneg (by omega), show (n : Int) - 1 = ((n - 1 : Nat) : Int) by omega]; exact (Int.natCast_emod x (n - 1)).symm
    · have := Nat.mod_lt x (show 0 < n - 1 by omega); omega
  have Hkn := Lib.hid hkn
  clear hkn
  go_wp2_with fail
  refine (word1_any n k _ _ Hkn.out (by omega) ?_).mono ?_
  · exact cell_of_blk (heap_alloc_top _ _) (j := 0) rfl
  rintro e w3 ⟨us, rfl, hos, hb3⟩
  have hi3 := hos.ints
  obtain ⟨ps, ks, rfl, _, _⟩ := hos.shape
  have hs5 : P5 n (sw k (idL n)) := (P5.id HYO.out.one (by have := HYO.out.four; omega)).sw Hkn.out
  rw [hs5.len] at hi3 ⊢
  have hb13 := (below_alloc w1 (.cells #[.int .i64 (k : Int)] 3)).trans (hb3.mono (by rw [size_alloc]; exact Nat.le_succ _))
  have HB3 := Lib.hid (below_trans HB1.out hb13)
  have hq := implEqui_any _ _ _ (sw k (idL n)) vs ys w3 hi3 (HV.out.below hb13) (HY.out.below hb13)
  rw [chC_eq HYO.out Hv.out Hkn.out] at hq
  obtain ⟨L, hL⟩ : ∃ L, L = sumC n (chC ys vs k) := ⟨_, rfl⟩
  rw [← hL] at hq
  have HL := Lib.hid hL
  have Hq := Lib.hid hq
  have Hb13 := Lib.hid hb13
  clear hos hi3 hs5 hb3 hb13 hq hL hk
  go_wp2_with fail
  refine Hq.out.mono ?_
  rintro e w4 ⟨ul, rfl, hol, hb4⟩
  have hrl := hol.rd
  obtain ⟨pl, kl, rfl, _, _⟩ := hol.shape
  have HRL := Lib.hid hrl
  have hb14 := below_trans Hb13.out hb4
  have HB4 := Lib.hid (below_trans HB1.out hb14)
  have HV4 := Lib.hid (HV.out.below hb14)
  have HY4 := Lib.hid (HY.out.below hb14)
  clear hol hrl hb4 hb14 Hq
  obtain ⟨bv, ov, rfl, hcv⟩ : ∃ b off, av = some ⟨b, off, none⟩ ∧ ∀ j, j < n → w4.cell? ⟨b, off + j, none⟩ = some (iv vs j) := by
    obtain ⟨p', k', e, _, hx⟩ := HV4.out
    rw [Hv.out.len] at hx e
    injection e with e1 e2 e3
    obtain ⟨b, off, hp, hc⟩ := hx (by omega)
    exact ⟨b, off, by rw [e1, hp], hc⟩
  obtain ⟨bY, oY, rfl, hcy⟩ : ∃ b off, ay = some ⟨b, off, none⟩ ∧ ∀ j, j < n → w4.cell? ⟨b, off + j, none⟩ = some (iv ys j) := by
    obtain ⟨p', k', e, _, hx⟩ := HY4.out
    rw [HYO.out.len] at hx e
    injection e with e1 e2 e3
    obtain ⟨b, off, hp, hc⟩ := hx (by omega)
    exact ⟨b, off, by rw [e1, hp], hc⟩
  have Hcv := Lib.hid hcv
  have Hcy := Lib.hid hcy
  clear hcv hcy
  go_wp2_with fail
  go_loopg [12, 13] (k + 1) (fun g s12 s13 wr => ∃ j : Nat, j ≤ k + 1 ∧ g = k + 1 - j ∧ s13 = .int .i64 (j : Int) ∧ s12 = .int .i64 (xK ys vs j) ∧ Hid (Qt w4 wr))
  case atStart => exact ⟨0, Nat.zero_le _, rfl, rfl, rfl, Lib.hid (Qt.refl _)⟩
  case round =>
    obtain ⟨j, hj, rfl, rfl, rfl, hq⟩ := hrel
    obtain ⟨wx, rfl⟩ : ∃ x : World, x = wr := ⟨_, rfl⟩
    have HQ := Lib.hid hq.out
    obtain ⟨X, hX⟩ : ∃ X, X = xK ys vs j := ⟨_, rfl⟩
    have hXb := xK_bound HYO.out vs j
    rw [← hX] at hXb ⊢
    have HX := Lib.hid hX
    have hn4' := HYO.out.four
    clear hq hX
    by_cases hjk : j ≤ k
    · have hjki : (j : Int) ≤ (k : Int) := by omega
      have hkn' := Hkn.out
      have hjn : j < n := by omega
      have hjni : (j : Int) < (n : Int) := by omega
      obtain ⟨m, hm, hmn⟩ := Hv.out.rng hjn
      have hmni : (m : Int) < (n : Int) := by omega
      have c1 : wx.cell? ⟨bv, ov + j, none⟩ = some (.int .i64 (m : Int)) := by rw [HQ.out.cell (Hcv.out j hjn)]; unfold iv; rw [hm]
      obtain ⟨A, hA⟩ : ∃ A, A = ys.getD m 0 := ⟨_, rfl⟩
      obtain ⟨B, hB⟩ : ∃ B, B = ys.getD j 0 := ⟨_, rfl⟩
      have c2 : wx.cell? ⟨bY, oY + m, none⟩ = some (.int .i64 A) := by rw [HQ.out.cell (Hcy.out m hmn), hA]; rfl
      have c3 : wx.cell? ⟨bY, oY + j, none⟩ = some (.int .i64 B) := by rw [HQ.out.cell (Hcy.out j hjn), hB]; rfl
      have hAb := yb_of HYO.out m
      have hBb := yb_of HYO.out j
      rw [← hA] at hAb
      rw [← hB] at hBb
      have Hn := Lib.hid (show xK ys vs (j + 1) = X + A - B by
        rw [xK, ← HX.out, hA, hB]
        unfold yAt
        rw [hm, Int.toNat_natCast]; omega)
      clear hm hA hB
      go_wp2_with fail
      go_quiet (fail)
      have HQ1 := Lib.hid (HQ.out.drewN nq)
      go_wp2_with fail
      go_roundg (k + 1 - (j + 1))
      case measure => omega
      case rel => exact ⟨j + 1, by omega, rfl, by go_num, by rw [Hn.out], HQ1⟩
    · have hjki : ¬ (j : Int) ≤ (k : Int) := by omega
      obtain rfl : j = k + 1 := by omega
      obtain ⟨e0, he0, he1⟩ : ∃ e0 : Nat, (X = 0 → e0 = 0) ∧ (X ≠ 0 → e0 = 1) := ⟨if X = 0 then 0 else 1, fun h => if_pos h, fun h => if_neg h⟩
      have hlen : e0 + cnA vs k (k + 1) = L.length := by
        have h := chC_len (ys := ys) HYO.out.one HYO.out.four Hv.out Hkn.out
        rw [← HL.out, ← HX.out, ← cnA_all] at h
        by_cases h0 : X = 0
        · rw [if_pos h0] at h; have := he0 h0; omega
        · rw [if_neg h0] at h; have := he1 h0; omega
      have he01 : e0 ≤ 1 := by
        by_cases h0 : X = 0
        · have := he0 h0; omega
        · have := he1 h0; omega
      have Hlen := Lib.hid hlen
      have hin : inC L (trimL vs) = X := by rw [HL.out, sumC_in HYO.out.one HYO.out.four _ Hv.out, (chC_at Hv.out Hkn.out).1, HX.out]
      have Hin := Lib.hid hin
      have hXX : (X != X) = false := by simp
      have HVx := Lib.hid (HV4.out.qt HQ.out)
      have HRLx := Lib.hid (HRL.out.below (HQ.out.below _))
      have hbx := Lib.hid (HQ.out.below w4.heap.size)
      have HIf : Hid (∀ a b : Nat, a ≤ k → k < b → b < n → lnN (swapL vs a b) = lnN vs + 1 → inC L (trimL (swapL vs a b)) = 1) := Lib.hid fun a b ha hb hbn he => by
        have hm := cvK_mem ha hb (by rw [Hv.out.len]; exact hbn) he
        rw [HL.out, sumC_in HYO.out.one HYO.out.four _ ((cv_at Hv.out Hkn.out).p5 _ hm).1, (chC_at Hv.out Hkn.out).2 _ hm]
      clear hlen hin
      by_cases hX0 : X = 0
      all_goals
        first | have Hez := Lib.hid (he0 hX0) | have Hez := Lib.hid (he1 hX0)
        clear he0 he1
        go_wp2_with fail
        refine (implTrim_yes _ vs _ HVx.out Hv.out.ok).mono ?_
        rintro e w5 ⟨ut, rfl, hot, hb5⟩
        have hit := hot.ints
        obtain ⟨pt, kt, rfl, _, _⟩ := hot.shape
        obtain ⟨nt, hnt⟩ : ∃ nt, nt = (trimL vs).length := ⟨_, rfl⟩
        rw [← hnt] at hit ⊢
        have HIT := Lib.hid hit
        have HRL5 := Lib.hid (HRLx.out.below hb5)
        have HV5 := Lib.hid (HVx.out.below hb5)
        have HB5 := Lib.hid (hbx.out.trans (hb5.mono hbx.out.size))
        clear hot hit hnt hb5
        go_wp2_with fail
        refine (classIn_any _ _ L (trimL vs) w5 HRL5.out HIT.out).mono ?_
        rintro e w6 ⟨rfl, hq6⟩
        rw [Hin.out]
        have HB6 := Lib.hid (HB5.out.trans ((hq6.below w5.heap.size).mono HB5.out.size))
        have HV6 := Lib.hid (HV5.out.qt hq6)
        have HRL6 := Lib.hid (HRL5.out.below (hq6.below _))
        clear hq6
        go_wp2_with fail
        go_loopg [14, 15, 16, 17] (k + 1) (fun g s14 s15 s16 s17 wr => ∃ a : Nat, a ≤ k + 1 ∧ g = k + 1 - a ∧ s15 = .int .i64 (a : Int) ∧ s14 = .int .i64 ((e0 + cnA vs k a : Nat) : Int) ∧ Hid (Below w4.heap.size w4 wr))
        case atStart => exact ⟨0, Nat.zero_le _, rfl, rfl, by rw [cnA_zero, Hez.out]; rfl, HB6⟩
        case round =>
          obtain ⟨a, ha, rfl, rfl, rfl, hb⟩ := hrel
          obtain ⟨wa, rfl⟩ : ∃ x : World, x = wr := ⟨_, rfl⟩
          have HBa := Lib.hid hb.out
          obtain ⟨CA, hCA⟩ : ∃ C, C = cnA vs k a := ⟨_, rfl⟩
          have hCAb : CA ≤ a * n := by rw [hCA, ← Hv.out.len]; exact cnA_le vs k a
          have hn4' := HYO.out.four
          have hkn' := Hkn.out
          have hCA16 : CA ≤ 16 := Nat.le_trans hCAb (Nat.le_trans (Nat.mul_le_mul (show a ≤ 4 by omega) hn4') (by decide))
          rw [← hCA]
          have HCA := Lib.hid hCA
          clear hb hCA hCAb
          by_cases hak : a ≤ k
          · have haki : (a : Int) ≤ (k : Int) := by omega
            go_wp2_with fail
            go_loopg [14, 16, 17] (n - (k + 1)) (fun g s14 s16 s17 wr => ∃ b : Nat, k + 1 ≤ b ∧ b ≤ n ∧ g = n - b ∧ s16 = .int .i64 (b : Int) ∧ s14 = .int .i64 ((e0 + CA + cnB vs k a b : Nat) : Int) ∧ Hid (Below w4.heap.size w4 wr))
            case atStart => exact ⟨k + 1, Nat.le_refl _, by omega, rfl, rfl, by rw [cnB_low]; rfl, HBa⟩
            case round =>
              obtain ⟨b, hkb, hbn, rfl, rfl, rfl, hb⟩ := hrel
              obtain ⟨wb, rfl⟩ : ∃ x : World, x = wr := ⟨_, rfl⟩
              have HBb := Lib.hid hb.out
              obtain ⟨CB, hCB⟩ : ∃ C, C = cnB vs k a b := ⟨_, rfl⟩
              have hCBb : CB ≤ b := by rw [hCB]; exact cn_le vs k a b
              rw [← hCB]
              have HCB := Lib.hid hCB
              clear hb hCB
              by_cases hbl : b < n
              · have hbli : (b : Int) < (n : Int) := by omega
                have HP := Lib.hid (Hv.out.swp (show a < b by omega) hbl)
                have Hle := Lib.hid (show lenP (swapL vs a b) = lnN (swapL vs a b) from (ordIs HYO.out.one hn4').len _ (((aL HYO.out.one hn4').mem _).2 HP.out))
                have Hlv := Lib.hid (show lenP vs = lnN vs from (ordIs HYO.out.one hn4').len _ (((aL HYO.out.one hn4').mem _).2 Hv.out))
                have hl1 : lnN (swapL vs a b) ≤ 10 := by have := (wrd_at HP.out).2.2.1; have := (wrd_at HP.out).2.2.2; have h2 : n * (n - 1) ≤ 4 * 3 := Nat.mul_le_mul hn4' (by omega); omega
                have hl2 : lnN vs ≤ 10 := by have := (wrd_at Hv.out).2.2.2; have h2 : n * (n - 1) ≤ 4 * 3 := Nat.mul_le_mul hn4' (by omega); omega
                obtain ⟨l1, hl1'⟩ : ∃ l, l = lnN (swapL vs a b) := ⟨_, rfl⟩
                obtain ⟨l2, hl2'⟩ : ∃ l, l = lnN vs := ⟨_, rfl⟩
                rw [← hl1'] at hl1
                rw [← hl2'] at hl2
                have Hl1 := Lib.hid hl1'
                have Hl2' := Lib.hid hl2'
                have hw4b := HBb.out
                have HVb := Lib.hid (HV4.out.below HBb.out)
                clear hl1' hl2' hw4b
                go_wp2_with fail
                refine (lawSwapped_any _ vs a b wb HVb.out (by rw [Hv.out.len]; omega) (by rw [Hv.out.len]; omega) (by rw [Hv.out.len]; omega)).mono ?_
                rintro e w7 ⟨uw, rfl, how, hb7⟩
                have hiw := how.ints
                obtain ⟨pw, kw, rfl, _, _⟩ := how.shape
                rw [HP.out.len] at hiw ⊢
                have HIW := Lib.hid hiw
                have HB7 := Lib.hid (HBb.out.trans (hb7.mono HBb.out.size))
                clear how hiw hb7
                go_wp2_with fail
                refine (implLength_any _ (swapL vs a b) w7 HIW.out HP.out.ok).mono ?_
                rintro e w8 ⟨rfl, hb8⟩
                rw [Hle.out, ← Hl1.out]
                have HIW8 := Lib.hid (HIW.out.below hb8)
                have HB8 := Lib.hid (HB7.out.trans (hb8.mono HB7.out.size))
                clear hb8
                go_wp2_with fail
                refine (implLength_any _ vs w8 (HV4.out.below HB8.out) Hv.out.ok).mono ?_
                rintro e w9 ⟨rfl, hb9⟩
                rw [Hlv.out, ← Hl2'.out]
                have HIW9 := Lib.hid (HIW8.out.below hb9)
                have HB9 := Lib.hid (HB8.out.trans (hb9.mono HB8.out.size))
                clear hb9
                by_cases he : l1 = l2 + 1
                · have hei : (l1 : Int) = (l2 : Int) + 1 := by omega
                  have Hone := Lib.hid (HIf.out a b hak (by omega) hbl (by rw [← Hl1.out, ← Hl2'.out]; exact he))
                  have Hcy := Lib.hid (cnB_yes (v := vs) (k := k) (a := a) (b := b) (by omega) (by rw [← Hl1.out, ← Hl2'.out]; exact he))
                  go_wp2_with fail
                  refine (implTrim_yes _ (swapL vs a b) w9 HIW9.out HP.out.ok).mono ?_
                  rintro e w10 ⟨ux, rfl, hox, hb10⟩
                  have hix := hox.ints
                  obtain ⟨px, kx, rfl, _, _⟩ := hox.shape
                  obtain ⟨nx, hnx⟩ : ∃ nx, nx = (trimL (swapL vs a b)).length := ⟨_, rfl⟩
                  rw [← hnx] at hix ⊢
                  have HIX := Lib.hid hix
                  have HB10 := Lib.hid (HB9.out.trans (hb10.mono HB9.out.size))
                  clear hox hix hnx hb10
                  go_wp2_with fail
                  refine (classIn_any _ _ L (trimL (swapL vs a b)) w10 (HRL.out.below HB10.out) HIX.out).mono ?_
                  rintro e w11 ⟨rfl, hq11⟩
                  rw [Hone.out]
                  have HB11 := Lib.hid (HB10.out.trans ((hq11.below w10.heap.size).mono HB10.out.size))
                  clear hq11
                  go_wp2_with fail
                  go_roundg (n - (b + 1))
                  case measure => omega
                  case rel => exact ⟨b + 1, by omega, by omega, rfl, by go_num, by rw [Hcy.out, ← HCB.out]; go_num, HB11⟩
                · have hei : ¬ (l1 : Int) = (l2 : Int) + 1 := by omega
                  have Hcn := Lib.hid (cnB_no (v := vs) (k := k) (a := a) (b := b) (by rw [← Hl1.out, ← Hl2'.out]; exact he))
                  go_wp2_with fail
                  go_roundg (n - (b + 1))
                  case measure => omega
                  case rel => exact ⟨b + 1, by omega, by omega, rfl, by go_num, by rw [Hcn.out, ← HCB.out]; go_num, HB9⟩
              · have hbli : ¬ (b : Int) < (n : Int) := by omega
                obtain rfl : b = n := by omega
                have Hnx := Lib.hid (show e0 + cnA vs k (a + 1) = e0 + CA + CB by rw [cnA_succ, Hv.out.len, ← HCA.out, ← HCB.out]; omega)
                go_wp2_with fail
                go_roundg (k + 1 - (a + 1))
                case measure => omega
                case rel => exact ⟨a + 1, by omega, rfl, by go_num, by rw [Hnx.out]; go_num, HBb⟩
          · have haki : ¬ (a : Int) ≤ (k : Int) := by omega
            obtain rfl : a = k + 1 := by omega
            obtain ⟨NL, hNL⟩ : ∃ NL, NL = L.length := ⟨_, rfl⟩
            have hE : e0 + CA = NL := by rw [HCA.out, Hlen.out, hNL]
            rw [← hNL, hE]
            have HB12 := Lib.hid (below_trans HB4.out HBa.out)
            clear hNL hE
            go_wp2_with fail
            go_ret
            exact ⟨rfl, HB12.out⟩

end Go.Proofs.Ytajmoclnmphmgaa
