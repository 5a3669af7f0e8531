/-
  SpaceString, on both sides.
  IsShape, and a shape in a box, on both sides.
  A shape in a box, on both sides.
  Shapes and strings: shortened, ShapeOfString, DualShape, ContainsShape.
-/
import Derived.Test.YtoodgbflaaabmaaJ9
import Derived.Test.YtoodgbflaaabmaaJ3
import Derived.Test.YtoodgbflaaabmaaJ4
import Derived.Test.YtoodgbflaaabmaaJ16
import Derived.Test.YtoodgbflaaabmaaJ6
import Derived.Test.YtoodgbflaaabmaaJ15
namespace Go.Proofs.Ytoodgbflaaabmaa
set_option linter.all false
open Go.RowKit

/-- 1 at the first i of the columns q, 0 elsewhere -/
def strAt (q : Nat → Nat) (i j : Nat) : Int := if (List.range i).any (fun t => q t == j) then 1 else 0
def strL (C : Nat) (q : Nat → Nat) (n : Nat) : List Int := (List.range C).map fun j => strAt q n j
theorem strAt_zero (q : Nat → Nat) (j : Nat) : strAt q 0 j = 0 := by simp [strAt]
theorem strAt_succ (q : Nat → Nat) (i j : Nat) : strAt q (i + 1) j = if j = q i then 1 else strAt q i j := by
  unfold strAt
  rw [List.range_succ, List.any_append]
  by_cases e : j = q i
  · subst e; simp
  · have : (q i == j) = false := by simp; exact fun h => e h.symm
    simp [e, this]
theorem strL_length (C : Nat) (q : Nat → Nat) (n : Nat) : (strL C q n).length = C := by simp [strL]
theorem strL_congr {C n : Nat} {q q' : Nat → Nat} (h : ∀ i, i < n → q i = q' i) : strL C q n = strL C q' n := by
  unfold strL strAt
  refine List.map_congr_left fun j _ => ?_
  have : (List.range n).any (fun t => q t == j) = (List.range n).any (fun t => q' t == j) := by
    rw [Bool.eq_iff_iff]
    simp only [List.any_eq_true, List.mem_range]
    constructor
    · rintro ⟨t, ht, e⟩; exact ⟨t, ht, by rw [← h t ht]; exact e⟩
    · rintro ⟨t, ht, e⟩; exact ⟨t, ht, by rw [h t ht]; exact e⟩
  rw [this]

/-- what SpaceString returns -/
def StIs (P R C : Int) (D : List Int) (l : List Int) : Prop :=
  (IkIs P R C D true → ∃ (n : Nat) (M : Nat → Nat → Int) (q : Nat → Nat), IsRed P C.toNat R.toNat (mf C.toNat fun t => D.getD t 0) n M q ∧ l = strL C.toNat q n) ∧ (IkIs P R C D false → l = [])
theorem ik_or (P R C : Int) (D : List Int) : IkIs P R C D true ∨ IkIs P R C D false := by
  by_cases h : mxOk P R C D = true ∧ SpIs P R C D ⟨P, R, C, D⟩
  · exact .inl ⟨fun _ => h, fun _ => rfl⟩
  · exact .inr ⟨fun e => absurd e (by decide), fun e => absurd e h⟩
theorem ik_ok {P R C : Int} {D : List Int} (h : IkIs P R C D true) : mxOk P R C D = true ∧ SpIs P R C D ⟨P, R, C, D⟩ := h.1 rfl
theorem StIs.one {P R C : Int} {D l l' : List Int} (h : StIs P R C D l) (h' : StIs P R C D l') : l = l' := by
  rcases ik_or P R C D with hk | hk
  · obtain ⟨n, M, q, h1, rfl⟩ := h.1 hk
    obtain ⟨n', M', q', h1', rfl⟩ := h'.1 hk
    obtain ⟨_, _, _, _, _, _, _, _, _, hP, _⟩ := mxOk_facts (ik_ok hk).1
    obtain ⟨e1, e2, _⟩ := h1.one hP h1'
    subst e1
    exact strL_congr e2
  · rw [h.2 hk, h'.2 hk]
theorem StIs.len {P R C : Int} {D l : List Int} (h : StIs P R C D l) : l.length ≤ 1000 := by
  rcases ik_or P R C D with hk | hk
  · obtain ⟨n, M, q, h1, rfl⟩ := h.1 hk
    obtain ⟨r, c, rfl, rfl, hr, _, hc, _⟩ := mxOk_facts (ik_ok hk).1
    rw [strL_length]
    simp only [Int.toNat_natCast]
    omega
  · rw [h.2 hk]; simp
def StQ (P R C : Int) (D l : List Int) : Prop := StIs P R C D l ∨ ((∀ m', ¬ StIs P R C D m') ∧ l = [])
theorem StQ.ex (P R C : Int) (D : List Int) : ∃ m, StQ P R C D m := by
  by_cases h : ∃ m, StIs P R C D m
  · obtain ⟨m, h⟩ := h
    exact ⟨m, .inl h⟩
  · exact ⟨[], .inr ⟨fun m hm => h ⟨m, hm⟩, rfl⟩⟩
theorem StIs.eps {P R C : Int} {D m : List Int} (h : StIs P R C D m) : m = Classical.epsilon (StQ P R C D) := by
  rcases Classical.epsilon_spec (StQ.ex P R C D) with h2 | ⟨h2, _⟩
  · exact h.one h2
  · exact absurd h (h2 m)
theorem str_len (P R C : Int) (D : List Int) : (Classical.epsilon (StQ P R C D)).length ≤ 1000 := by
  rcases Classical.epsilon_spec (StQ.ex P R C D) with h | ⟨_, h⟩
  · exact h.len
  · rw [h]; simp
/-- the rows of a space have their first numbers in the columns of its span -/
theorem space_piv {P : Int} {r c : Nat} {D : List Int} (h : IkIs P r c D true) : ∃ (M : Nat → Nat → Int) (q : Nat → Nat), IsRed P c r (mf c fun t => D.getD t 0) r M q ∧ ∀ i, i < r → pivL (rowAt c D i) = q i ∧ q i < c := by
  obtain ⟨h1, h2⟩ := ik_ok h
  unfold SpIs at h2
  rw [if_pos h1] at h2
  obtain ⟨n, M, q, hr, _, e⟩ := h2
  injection e with _ e2 _ e4
  obtain ⟨r', c', e5, e6, _, hc0, _, hlD, _⟩ := mxOk_facts h1
  have e5 := Int.ofNat.inj e5
  have e6 := Int.ofNat.inj e6
  subst e5 e6
  have e2 : r = n := Int.ofNat.inj e2
  subst e2
  simp only [Int.toNat_natCast] at hr e4
  refine ⟨M, q, hr, fun i hi => ?_⟩
  have hlt := hr.1.lt i hi
  have hM : ∀ j, j < c → (rowAt c D i).getD j 0 = M i j := fun j hj => by
    rw [rowAt_getD hj, e4]
    obtain ⟨d1, d2⟩ := div_at (k := i) hj
    have hb : i * c + j < r * c := by
      have := mul_le_of (C := c) hi
      rw [Nat.add_mul, Nat.one_mul] at this
      omega
    unfold flatM
    rw [List.getD_eq_getElem?_getD]
    simp [hb, d1, d2]
  have hl : (rowAt c D i).length = c := rowAt_length (by rw [hlD]; exact mul_le_of hi)
  refine ⟨pivL_at (by omega) ?_ fun j hj => ?_, hlt⟩
  · rw [hM _ hlt, hr.1.unit i i hi hi, if_pos rfl]; decide
  · rw [hM _ (by omega)]; exact hr.1.lead i j hi hj

set_option maxRecDepth 100000 in
set_option maxHeartbeats 2000000 in
theorem implSpaceString_ex (P R C : Int) (d : Value) (D : List Int) (w : World) (hd : Ints w d D) :
    Calls Try.prog 23 #[.agg #[.int .i64 P, .int .i64 R, .int .i64 C, d]] w fun e w' => ∃ l, StIs P R C D l ∧ RetI w l e w' := by
  have Hd := Lib.hid hd
  obtain ⟨p, cap, rfl, ⟨_, mx⟩, _⟩ := hd
  unfold maxLen at mx
  rcases ik_or P R C D with hk | hk
  · have h1 := (ik_ok hk).1
    obtain ⟨r, c, rfl, rfl, hr, hc0, hc, hlD, hD, hP2, hP7, hpr⟩ := mxOk_facts h1
    obtain ⟨M, q, hrd, hpv⟩ := space_piv hk
    have HK := Lib.hid hk
    have Hrd := Lib.hid hrd
    have Hpv := Lib.hid hpv
    have HlD := Lib.hid hlD
    have hmk := run_make_row' (P := Try.prog) 24 3 (.int .i64 0) 8 Try.underlying24 info_int rfl .i64 .i64 c (by omega) (by omega)
    have Z := Lib.hid (heap_alloc_top w (.cells #[.int .i64 P, .int .i64 (r : Int), .int .i64 (c : Int), .slice p D.length cap] 34))
    have Hba := Lib.hid (below_alloc w (.cells #[.int .i64 P, .int .i64 (r : Int), .int .i64 (c : Int), .slice p D.length cap] 34))
    have Hmk := Lib.hid hmk
    clear h1 hk hlD hD hpr hmk hrd hpv
    go_enter Try.func23, Try.ntmps23
    go_wp2_with fail
    refine (implIsSpace_ex P r c _ D _ (Hd.out.below Hba.out)).mono ?_
    rintro e w1 ⟨b, rfl, hb, hbl⟩
    obtain rfl : b = true := hb.one HK.out
    have Hb1 := Lib.hid (Hba.out.trans (hbl.mono (by simp)))
    have Z1 := Lib.hid (blk_later Z.out hbl)
    clear hb hbl
    have hmk := Hmk.out
    obtain ⟨c0, c1, c2, c3, cf, cz⟩ := blk4 Z1.out
    go_wp2_with fail
    clear hmk c0 c1 c2 c3 cf cz
    have hrow := World.rowIs_made w1 (.int .i64 0) c 3
    have hbm := below_alloc w1 (.cells (madeCells #[.int .i64 0] c) 3)
    have hs1 := Hb1.out.size
    have hsm : (w1.alloc (.cells (madeCells #[.int .i64 0] c) 3)).heap.size = w1.heap.size + 1 := by simp
    generalize w1.alloc (.cells (madeCells #[.int .i64 0] c) 3) = w2 at *
    have Hrow := Lib.hid hrow
    have Hb2 := Lib.hid (Hb1.out.trans (hbm.mono hs1))
    clear hrow hbm
    refine (lines_any P r c _ D _ (Hd.out.below Hb2.out) (by omega) (by omega) hc0 HlD.out).mono ?_
    rintro e w3 ⟨u, rfl, hoL, hb⟩
    have hnl := rowsOf_length r c D
    obtain ⟨F, g1, g2, g3⟩ := hoL
    have g1 := g1.cut hnl
    obtain ⟨p2, k2, rfl, hk2, hk2b, _⟩ := g1.shape
    unfold maxLen at hk2b
    have hs3 := hb.size
    have Hb3 := Lib.hid (Hb2.out.trans (hb.mono (by omega)))
    have Hrow3 := Lib.hid (Hrow.out.of_block (hb.block _ (by omega)))
    have G1 := Lib.hid g1
    have G2 := Lib.hid (fun i (hi : i < r) => g2 i (by omega))
    clear g1 g2 g3 hb Hrow hnl
    go_wp2_with fail
    go_loopg [5, 15] r (fun g s5 s15 wr => ∃ i : Nat, i ≤ r ∧ g = r - i ∧ s15 = .int .i64 i ∧ Hid (Frm w1.heap.size (w1.heap.size + 1) w3 wr) ∧ Hid (wr.rowIs w1.heap.size 3 c (fun j => .int .i64 (strAt q i j))))
    case atStart => exact ⟨0, Nat.zero_le _, rfl, rfl, Frm.refl _ _ _, Hrow3.out.congr fun j _ => by rw [strAt_zero]⟩
    case round =>
      obtain ⟨i, hi, rfl, rfl, hfx, hrw⟩ := hrel
      by_cases hlt : i < r
      · have g1 := G1.out.frm hfx.out (.inr (by omega))
        obtain ⟨g2, rfl, hg1, hg2, hg3⟩ := g1.at_ (by omega)
        have d1 := g1.cell hlt
        have hrwl : (rowAt c D i).length = c := rowAt_length (by rw [HlD.out]; exact mul_le_of hlt)
        have hI := (G2.out i hlt).frm hfx.out (.inr (by omega))
        rw [rowsOf_getD hlt] at hI
        obtain ⟨pt, kt, et, hnt, hkt⟩ := hI.shapeC hrwl
        unfold maxLen at hkt
        rw [et] at d1 hI
        obtain ⟨hpe, hql⟩ := Hpv.out i hlt
        have hpi := pivot_any _ _ wr hI.ints
        rw [hpe] at hpi
        obtain ⟨Q, hQ⟩ : ∃ Q, Q = q i := ⟨_, rfl⟩
        rw [← hQ] at hpi hql
        have Hpi := Lib.hid hpi
        have HQ := Lib.hid hQ
        clear hQ hpi hI g1 et hpe hrwl
        go_wp2_with fail
        refine Hpi.out.mono ?_
        rintro e wy ⟨rfl, hq⟩
        have hrw2 := hrw.out.of_block (by rw [hq.heap])
        obtain ⟨z, d2⟩ : ∃ z, wy.cell? ⟨w1.heap.size, Q, none⟩ = some (.int .i64 z) := ⟨_, hrw2.cell hql⟩
        have d3 := hrw2.frozen Q
        have Hrw2 := Lib.hid hrw2
        have Hfy := Lib.hid (hfx.out.trans (hq.frm _ _))
        clear hrw2 hq d1
        go_wp2_with fail
        go_roundg (r - (i + 1))
        case measure => omega
        case rel =>
          refine ⟨i + 1, by omega, rfl, by go_num, ⟨Hfy.out.os, Hfy.out.tape, Hfy.out.output, by simpa [World.setCell] using Hfy.out.size, fun b hb ho => (Below.heap_setCell _ _ _ _ (by show b ≠ w1.heap.size; omega)).trans (Hfy.out.block b hb ho)⟩, (Hrw2.out.set Q _).congr fun j _ => ?_⟩
          rw [strAt_succ, HQ.out]
          by_cases e : j = q i <;> simp [e]
      · obtain rfl : i = r := by omega
        go_wp2_with fail
        go_ret
        refine ⟨strL c q i, ⟨fun _ => ⟨i, M, q, Hrd.out, rfl⟩, fun h => absurd (h.one HK.out) (by decide)⟩, ⟨_, rfl, ?_, Hb3.out.trans (hfx.out.below hs1 (by omega))⟩⟩
        refine OwnF.ints ?_
        rw [strL_length]
        exact OwnF.mk' hrw.out hs1 hrw.out.lt (Nat.le_refl _) (by unfold maxLen; omega) fun j hj => by simp [iv, strL, List.getD_eq_getElem?_getD, hj]
  · have HK := Lib.hid hk
    have Hba := Lib.hid (below_alloc w (.cells #[.int .i64 P, .int .i64 R, .int .i64 C, .slice p D.length cap] 34))
    clear hk
    go_enter Try.func23, Try.ntmps23
    go_wp2_with fail
    refine (implIsSpace_ex P R C _ D _ (Hd.out.below Hba.out)).mono ?_
    rintro e w1 ⟨b, rfl, hb, hbl⟩
    obtain rfl : b = false := hb.one HK.out
    have Hb1 := Lib.hid (Hba.out.trans (hbl.mono (by simp)))
    clear hb hbl
    go_wp2_with fail
    go_ret
    exact ⟨[], ⟨fun h => absurd (h.one HK.out) (by decide), fun _ => rfl⟩, ⟨_, rfl, ⟨World.ownsRow_nil _ _ _ _, fun k hk => by simp [Value.ownBlock] at hk⟩, Hb1.out⟩⟩

theorem implSpaceString_any (P R C : Int) (d : Value) (D : List Int) (w : World) (hd : Ints w d D) :
    Calls Try.prog 23 #[.agg #[.int .i64 P, .int .i64 R, .int .i64 C, d]] w (RetI w (Classical.epsilon (StQ P R C D))) :=
  (implSpaceString_ex P R C d D w hd).mono fun e w' ⟨m, h1, h2⟩ => h1.eps ▸ h2

end Go.Proofs.Ytoodgbflaaabmaa

namespace Go.Proofs.Ytoodgbflaaabmaa
set_option linter.all false
open Go.RowKit

def shAt (xs : List Int) (j : Nat) : Prop := 1 ≤ xs.getD j 0 ∧ xs.getD j 0 ≤ 16 ∧ (0 < j → xs.getD j 0 ≤ xs.getD (j - 1) 0)
instance (xs : List Int) (j : Nat) : Decidable (shAt xs j) := by unfold shAt; exact inferInstance
/-- numbers from 1 to 16, at most 16 of them, that do not grow -/
def shOk (xs : List Int) : Bool := decide (xs.length ≤ 16 ∧ ∀ j, j < xs.length → shAt xs j)
theorem shOk_no {xs : List Int} {j : Nat} (hj : j < xs.length) (h : ¬ shAt xs j) : shOk xs = false := by
  unfold shOk
  exact decide_eq_false fun e => h (e.2 j hj)
theorem shOk_len {xs : List Int} (h : ¬ xs.length ≤ 16) : shOk xs = false := by
  unfold shOk
  exact decide_eq_false fun e => h e.1
theorem shOk_yes {xs : List Int} (h : xs.length ≤ 16) (hj : ∀ j, j < xs.length → shAt xs j) : shOk xs = true := by
  unfold shOk
  exact decide_eq_true ⟨h, hj⟩
theorem shOk_facts {xs : List Int} (h : shOk xs = true) : xs.length ≤ 16 ∧ ∀ j, j < xs.length → shAt xs j := by
  unfold shOk at h
  exact of_decide_eq_true h

set_option maxRecDepth 100000 in
set_option maxHeartbeats 2000000 in
theorem implIsShape_any (v : Value) (xs : List Int) (w : World) (h : Ints w v xs) :
    Calls Try.prog 64 #[v] w fun e w' => e = .returned (.bool (shOk xs)) ∧ Qt w w' := by
  obtain ⟨p, cap, rfl, ⟨hx1, hx2⟩, hxc⟩ := h
  unfold maxLen at hx2
  go_enter Try.func64, Try.ntmps64
  go_wp2_with fail
  go_loopg [3, 4, 7] xs.length (fun g s3 s4 i wr => ∃ k : Nat, k ≤ xs.length ∧ g = xs.length - k ∧ i = .int .i64 k ∧ Qt w wr ∧ Hid (∀ j, j < k → shAt xs j))
  case atStart => exact ⟨0, Nat.zero_le _, rfl, rfl, Qt.refl _, fun j hj => absurd hj (Nat.not_lt_zero _)⟩
  case round =>
    obtain ⟨k, hk, rfl, rfl, hq, hp⟩ := hrel
    by_cases hlt : k < xs.length
    · obtain ⟨b, off, rfl, hc⟩ := hxc (by omega)
      obtain ⟨x, hx⟩ : ∃ x, x = xs.getD k 0 := ⟨_, rfl⟩
      have c1 := hq.cell (hc k hlt)
      unfold iv at c1
      rw [← hx] at c1
      have Hx := Lib.hid hx
      have Hc := Lib.hid hc
      clear hx hc hxc
      have hk1 : (k : Int) < (xs.length : Int) := by omega
      by_cases hx1' : x < 1
      · go_wp2_with fail
        go_ret
        exact ⟨ret_bool (shOk_no hlt fun e => by have := e.1; rw [← Hx.out] at this; omega).symm, hq⟩
      by_cases hx16 : 16 < x
      · go_wp2_with fail
        go_ret
        exact ⟨ret_bool (shOk_no hlt fun e => by have := e.2.1; rw [← Hx.out] at this; omega).symm, hq⟩
      by_cases hk0 : k = 0
      · subst hk0
        rw [Nat.add_zero] at c1
        go_wp2_with fail
        go_roundg (xs.length - (0 + 1))
        case measure => omega
        case rel =>
          refine ⟨0 + 1, by omega, rfl, by go_num, hq, fun j hj => ?_⟩
          obtain rfl : j = 0 := by omega
          exact ⟨by rw [← Hx.out]; omega, by rw [← Hx.out]; omega, fun h => absurd h (Nat.lt_irrefl _)⟩
      · obtain ⟨m, hm⟩ : ∃ m, m = k - 1 := ⟨_, rfl⟩
        have hkm : k = m + 1 := by omega
        obtain ⟨y, hy⟩ : ∃ y, y = xs.getD m 0 := ⟨_, rfl⟩
        have c2 := hq.cell (Hc.out m (by omega))
        unfold iv at c2
        rw [← hy] at c2
        have Hy := Lib.hid hy
        have hg0 : (0 : Int) < (k : Int) := by omega
        have hm1 : m < xs.length := by omega
        have hm2 : (m : Int) < (xs.length : Int) := by omega
        have hm3 : (0 : Int) ≤ (m : Int) := by omega
        have Hkm := Lib.hid hkm
        have hw0 : (k : Int) - 1 = (m : Int) := by omega
        clear hy hm hkm hk0
        by_cases hyx : y < x
        · go_wp2_with fail
          go_ret
          refine ⟨ret_bool (shOk_no hlt fun e => ?_).symm, hq⟩
          have := e.2.2 (by have := Hkm.out; omega)
          rw [← Hx.out, show k - 1 = m by have := Hkm.out; omega, ← Hy.out] at this
          omega
        · go_wp2_with fail
          go_roundg (xs.length - (k + 1))
          case measure => omega
          case rel =>
            refine ⟨k + 1, by omega, rfl, by go_num, hq, fun j hj => ?_⟩
            by_cases e : j = k
            · subst e
              exact ⟨by rw [← Hx.out]; omega, by rw [← Hx.out]; omega, fun _ => by rw [← Hx.out, show j - 1 = m by have := Hkm.out; omega, ← Hy.out]; omega⟩
            · exact hp.out j (by omega)
    · by_cases hl : xs.length ≤ 16
      · have e1 : (xs.length : Int) ≤ 16 := by omega
        go_wp2_with fail
        go_ret
        exact ⟨ret_bool (by rw [shOk_yes hl fun j hj => hp.out j (by omega)]), hq⟩
      · have e1 : ¬ (xs.length : Int) ≤ 16 := by omega
        go_wp2_with fail
        go_ret
        exact ⟨ret_bool (by rw [shOk_len hl]), hq⟩

theorem rowOf_any (v : Value) (xs : List Int) (i : Nat) (w : World) (h : Ints w v xs) (hi : i ≤ 1000000) :
    Calls Try.prog 63 #[v, .int .i64 (i : Int)] w fun e w' => e = .returned (.int .i64 (xs.getD i 0)) ∧ Qt w w' := by
  obtain ⟨p, cap, rfl, ⟨hx1, hx2⟩, hxc⟩ := h
  unfold maxLen at hx2
  by_cases hlt : i < xs.length
  · obtain ⟨b, off, rfl, hc⟩ := hxc (by omega)
    obtain ⟨x, hx⟩ : ∃ x, x = xs.getD i 0 := ⟨_, rfl⟩
    have c1 := hc i hlt
    unfold iv at c1
    rw [← hx] at c1 ⊢
    have hi1 : (i : Int) < (xs.length : Int) := by omega
    clear hx hc hxc
    go_enter Try.func63, Try.ntmps63
    go_wp2_with fail
    go_ret
    exact ⟨rfl, Qt.refl _⟩
  · have e : xs.getD i 0 = 0 := by simp [List.getD_eq_getElem?_getD, Nat.le_of_not_lt hlt]
    rw [e]
    have hi1 : ¬ (i : Int) < (xs.length : Int) := by omega
    go_enter Try.func63, Try.ntmps63
    go_wp2_with fail
    go_ret
    exact ⟨rfl, Qt.refl _⟩

end Go.Proofs.Ytoodgbflaaabmaa

namespace Go.Proofs.Ytoodgbflaaabmaa
set_option linter.all false
open Go.RowKit

/-- a shape in the box of r rows and c - r columns -/
def bxOk (xs : List Int) (r c : Nat) : Bool := shOk xs && decide (xs.length ≤ r) && decide (xs.getD 0 0 ≤ (c : Int) - (r : Int))
theorem bx_no1 {xs : List Int} {r c : Nat} (h : shOk xs = false) : bxOk xs r c = false := by simp [bxOk, h]
theorem bx_no2 {xs : List Int} {r c : Nat} (h : ¬ xs.length ≤ r) : bxOk xs r c = false := by simp [bxOk, h]
theorem bx_end {xs : List Int} {r c : Nat} (h : shOk xs = true) (h2 : xs.length ≤ r) : bxOk xs r c = decide (xs.getD 0 0 ≤ (c : Int) - (r : Int)) := by simp only [bxOk, h, h2, decide_true, Bool.and_true, Bool.true_and]

set_option maxHeartbeats 400000 in
theorem isBox_yes (r c : Nat) (w : World) (hrc : r ≤ c) (hc0 : 1 ≤ c) (hc7 : c ≤ 7) :
    Calls Try.prog 55 #[.int .i64 (r : Int), .int .i64 (c : Int)] w fun e w' => e = .returned (.bool true) ∧ w = w' := by
  have h1 : (1 : Int) ≤ (c : Int) := by omega
  have h2 : (c : Int) ≤ 7 := by omega
  have h3 : (0 : Int) ≤ (r : Int) := by omega
  have h4 : (r : Int) ≤ (c : Int) := by omega
  have hs : ∀ w, Calls Try.prog 78 #[.int .i64 (c : Int)] w fun e w' => e = .returned (.bool true) ∧ w = w' := fun w => by
    go_enter Try.func78, Try.ntmps78
    go_wp2_with fail
    go_ret
    exact ⟨rfl, rfl⟩
  go_enter Try.func55, Try.ntmps55
  go_wp2_with fail
  refine (hs w).mono ?_
  rintro e w1 ⟨rfl, rfl⟩
  go_wp2_with fail
  go_ret
  exact ⟨rfl, rfl⟩

set_option maxRecDepth 100000 in
set_option maxHeartbeats 1000000 in
theorem IsInBox_any (v : Value) (xs : List Int) (r c : Nat) (w : World) (h : Ints w v xs) (hrc : r ≤ c) (hc0 : 1 ≤ c) (hc7 : c ≤ 7) :
    Calls Try.prog 62 #[v, .int .i64 (r : Int), .int .i64 (c : Int)] w fun e w' => e = .returned (.bool (bxOk xs r c)) ∧ Qt w w' := by
  have Hd := Lib.hid h
  obtain ⟨p, cap, rfl, ⟨hx1, hx2⟩, _⟩ := h
  unfold maxLen at hx2
  cases hs : shOk xs with
  | false =>
    rw [bx_no1 hs]
    have Hs := Lib.hid hs
    clear hs
    go_enter Try.func62, Try.ntmps62
    go_wp2_with fail
    refine (isBox_yes _ _ _ hrc hc0 hc7).mono ?_
    rintro e w1 ⟨rfl, rfl⟩
    go_wp2_with fail
    refine (implIsShape_any _ xs _ Hd.out).mono ?_
    rintro e w2 ⟨rfl, hq2⟩
    rw [Hs.out]
    go_wp2_with fail
    go_ret
    exact ⟨rfl, hq2⟩
  | true =>
  have Hs := Lib.hid hs
  by_cases hl : xs.length ≤ r
  case neg =>
    rw [bx_no2 hl]
    have hl1 : ¬ (xs.length : Int) ≤ (r : Int) := by omega
    clear hs hl
    go_enter Try.func62, Try.ntmps62
    go_wp2_with fail
    refine (isBox_yes _ _ _ hrc hc0 hc7).mono ?_
    rintro e w1 ⟨rfl, rfl⟩
    go_wp2_with fail
    refine (implIsShape_any _ xs _ Hd.out).mono ?_
    rintro e w2 ⟨rfl, hq2⟩
    rw [Hs.out]
    go_wp2_with fail
    go_ret
    exact ⟨rfl, hq2⟩
  rw [bx_end hs hl]
  have hl1 : (xs.length : Int) ≤ (r : Int) := by omega
  obtain ⟨s, hs0⟩ : ∃ s, s = xs.getD 0 0 := ⟨_, rfl⟩
  rw [← hs0]
  have Hs0 := Lib.hid hs0
  clear hs hl hs0
  by_cases hsc : s ≤ (c : Int) - (r : Int)
  · have hd : decide (s ≤ (c : Int) - (r : Int)) = true := decide_eq_true hsc
    rw [hd]
    clear hd
    go_enter Try.func62, Try.ntmps62
    go_wp2_with fail
    refine (isBox_yes _ _ _ hrc hc0 hc7).mono ?_
    rintro e w1 ⟨rfl, rfl⟩
    go_wp2_with fail
    refine (implIsShape_any _ xs _ Hd.out).mono ?_
    rintro e w2 ⟨rfl, hq2⟩
    rw [Hs.out]
    go_wp2_with fail
    refine (rowOf_any _ xs 0 _ (Hd.out.qt hq2) (by omega)).mono ?_
    rintro e w3 ⟨rfl, hq3⟩
    rw [← Hs0.out]
    go_wp2_with fail
    go_ret
    exact ⟨rfl, hq2.trans hq3⟩
  · have hd : decide (s ≤ (c : Int) - (r : Int)) = false := decide_eq_false hsc
    rw [hd]
    clear hd
    go_enter Try.func62, Try.ntmps62
    go_wp2_with fail
    refine (isBox_yes _ _ _ hrc hc0 hc7).mono ?_
    rintro e w1 ⟨rfl, rfl⟩
    go_wp2_with fail
    refine (implIsShape_any _ xs _ Hd.out).mono ?_
    rintro e w2 ⟨rfl, hq2⟩
    rw [Hs.out]
    go_wp2_with fail
    refine (rowOf_any _ xs 0 _ (Hd.out.qt hq2) (by omega)).mono ?_
    rintro e w3 ⟨rfl, hq3⟩
    rw [← Hs0.out]
    go_wp2_with fail
    go_ret
    exact ⟨ret_bool (decide_eq_false (by omega)), hq2.trans hq3⟩

end Go.Proofs.Ytoodgbflaaabmaa

namespace Go.Proofs.Ytoodgbflaaabmaa
set_option linter.all false
open Go.RowKit

/-- how many are left of the first n without the zeros at their end -/
def shN (xs : List Int) : Nat → Nat
  | 0 => 0
  | n + 1 => if xs.getD n 0 = 0 then shN xs n else n + 1
theorem shN_le (xs : List Int) : ∀ n, shN xs n ≤ n
  | 0 => Nat.le_refl _
  | n + 1 => by
    rw [shN]
    split
    · exact Nat.le_succ_of_le (shN_le xs n)
    · exact Nat.le_refl _
def shL (xs : List Int) : List Int := xs.take (shN xs xs.length)
theorem OwnF.made1 (w : World) (T : TypeId) (x : Value) : OwnF (w.alloc (.cells #[x] T)) w.heap.size (w.heap.size + 1) T (.slice (some ⟨w.heap.size, 0, none⟩) 1 1) 1 (fun _ => x) :=
  OwnF.mk' ⟨#[x], heap_alloc_top _ _, rfl, fun j hj => by obtain rfl : j = 0 := by omega
                                                          rfl⟩ (Nat.le_refl _) (Nat.lt_succ_self _) (Nat.le_refl _) (by unfold maxLen; omega) fun _ _ => rfl

set_option maxRecDepth 100000 in
set_option maxHeartbeats 2000000 in
theorem shortened_any (v : Value) (xs : List Int) (w : World) (h : Ints w v xs) :
    Calls Try.prog 86 #[v] w fun e w' => ∃ u, e = .returned u ∧ Ints w' u (shL xs) ∧ Qt w w' := by
  have Hh := Lib.hid h
  obtain ⟨p, cap, rfl, ⟨hx1, hx2⟩, hxc⟩ := h
  unfold maxLen at hx2
  go_enter Try.func86, Try.ntmps86
  go_wp2_with fail
  go_loopg [3] (xs.length + 1) (fun g s3 wr => ∃ k : Nat, k ≤ xs.length ∧ g = k + 1 ∧ s3 = .int .i64 k ∧ Qt w wr ∧ Hid (shN xs xs.length = shN xs k))
  case atStart => exact ⟨xs.length, Nat.le_refl _, rfl, rfl, Qt.refl _, Lib.hid rfl⟩
  case round =>
    obtain ⟨k, hk, rfl, rfl, hq, hp⟩ := hrel
    by_cases h0 : k = 0
    · subst h0
      go_wp2_with fail
      go_ret
      refine ⟨_, rfl, ?_, hq⟩
      have := ints_takeP Hh.out (i := 0) (Nat.zero_le _)
      unfold shL
      rw [hp.out]
      exact this.qt hq
    · obtain ⟨m, rfl⟩ : ∃ m, k = m + 1 := ⟨k - 1, by omega⟩
      obtain ⟨b, off, rfl, hc⟩ := hxc (by omega)
      obtain ⟨x, hx⟩ : ∃ x, x = xs.getD m 0 := ⟨_, rfl⟩
      have c1 := hq.cell (hc m (by omega))
      unfold iv at c1
      rw [← hx] at c1
      have Hx := Lib.hid hx
      have hm1 : (0 : Int) < ((m + 1 : Nat) : Int) := by omega
      have hm2 : ((m + 1 : Nat) : Int) - 1 = (m : Int) := by omega
      have hm3 : (m : Int) < (xs.length : Int) := by omega
      have hm4 : ((m + 1 : Nat) : Int) ≤ (cap : Int) := by omega
      have HN := Lib.hid (show shN xs (m + 1) = if xs.getD m 0 = 0 then shN xs m else m + 1 from rfl)
      clear hx hc hxc h0
      by_cases hx0 : x = 0
      · go_wp2_with fail
        go_roundg (m + 1)
        case measure => omega
        case rel => exact ⟨m, by omega, rfl, by go_num, hq, Lib.hid (by rw [hp.out, HN.out, if_pos (by rw [← Hx.out]; exact hx0)])⟩
      · go_wp2_with fail
        go_ret
        refine ⟨_, rfl, ?_, hq⟩
        have := ints_takeP Hh.out (i := m + 1) hk
        unfold shL
        rw [hp.out, HN.out, if_neg (by rw [← Hx.out]; exact hx0)]
        exact this.qt hq

theorem shapeOfRows_any (v : Value) (xs : List Int) (w : World) (h : Ints w v xs) :
    Calls Try.prog 61 #[v] w fun e w' => ∃ u, e = .returned u ∧ Ints w' u (shL xs) ∧ Qt w w' := by
  have Hh := Lib.hid h
  obtain ⟨p, cap, rfl, ⟨hx1, hx2⟩, hxc⟩ := h
  clear hxc
  go_enter Try.func61, Try.ntmps61
  go_wp2_with fail
  refine (shortened_any _ xs _ Hh.out).mono ?_
  rintro e w1 ⟨u, rfl, hi, hq⟩
  have Hi := Lib.hid hi
  obtain ⟨p1, c1, rfl, _, _⟩ := hi
  go_wp2_with fail
  go_ret
  exact ⟨_, rfl, Hi.out, hq⟩

/-! ### the shape of a string -/

def ssZ (t : List Int) : Nat → Nat
  | 0 => 0
  | i + 1 => if t.getD i 0 = 0 then ssZ t i + 1 else ssZ t i
def ssR (t : List Int) : Nat → List Int
  | 0 => []
  | i + 1 => if t.getD i 0 = 0 then ssR t i else (ssZ t i : Int) :: ssR t i
theorem ssZ_le (t : List Int) : ∀ i, ssZ t i ≤ i
  | 0 => Nat.le_refl _
  | i + 1 => by
    have := ssZ_le t i
    rw [ssZ]
    split <;> omega
theorem ssR_len (t : List Int) : ∀ i, (ssR t i).length ≤ i
  | 0 => Nat.le_refl _
  | i + 1 => by
    have := ssR_len t i
    rw [ssR]
    split
    · omega
    · rw [List.length_cons]; omega
theorem OwnI.cons1 {T : TypeId} {w : World} {lo hi n : Nat} {v : Value} {out : List Int} {x : Int} (hn : n = out.length) (h : OwnF w lo hi T v (1 + n) (fun j => if j < 1 then .int .i64 x else iv out (j - 1))) : OwnI T w lo hi v (x :: out) := by
  subst hn
  refine OwnF.ints ?_
  rw [List.length_cons, Nat.add_comm]
  refine h.congr fun j hj => ?_
  by_cases e : j = 0
  · subst e; rfl
  · rw [if_neg (by omega)]
    obtain ⟨i, rfl⟩ : ∃ i, j = i + 1 := ⟨j - 1, by omega⟩
    rfl

set_option maxRecDepth 100000 in
set_option maxHeartbeats 2000000 in
theorem ShapeOfString_any (v : Value) (t : List Int) (w : World) (h : Ints w v t) (ht : strOk t = true) :
    Calls Try.prog 27 #[v] w fun e w' => ∃ u, e = .returned (.tuple #[u, .int .i64 ((ssR t t.length).length : Int), .bool true]) ∧ Ints w' u (shL (ssR t t.length)) ∧ Below w.heap.size w w' := by
  have Hh := Lib.hid h
  have Ht := Lib.hid ht
  have h7 : t.length ≤ 7 := by
    unfold strOk at ht
    exact (of_decide_eq_true ht).2.1
  clear ht
  obtain ⟨p, cap, rfl, ⟨hx1, hx2⟩, hxc⟩ := h
  unfold maxLen at hx2
  go_enter Try.func27, Try.ntmps27
  go_wp2_with fail
  refine (implIsString_b _ t true Ht.out _ Hh.out).mono ?_
  rintro e w1 ⟨rfl, rfl⟩
  go_wp2_with fail
  go_loopg [5, 6, 8, 15] t.length (fun g s5 s6 s8 i wr => ∃ k : Nat, k ≤ t.length ∧ g = t.length - k ∧ i = .int .i64 k ∧ s6 = .int .i64 (ssZ t k : Nat) ∧ Hid (OwnI 3 wr w.heap.size wr.heap.size s5 (ssR t k)) ∧ Hid (Below w.heap.size w wr))
  case atStart => exact ⟨0, Nat.zero_le _, rfl, rfl, rfl, Lib.hid (OwnF.ints ((OwnF.made0 w 3 (iv [])).mono (Nat.le_refl _) (by simp))), Lib.hid (below_alloc _ _)⟩
  case round =>
    obtain ⟨k, hk, rfl, rfl, rfl, ho, hb⟩ := hrel
    have hsr := hb.out.size
    by_cases hlt : k < t.length
    · have hlt2 : (k : Int) < (t.length : Int) := by omega
      obtain ⟨b, off, rfl, hc⟩ := hxc (by omega)
      obtain ⟨x, hx⟩ : ∃ x, x = t.getD k 0 := ⟨_, rfl⟩
      have c0 := hc k hlt
      unfold iv at c0
      rw [← hx] at c0
      have c1 := cell_below hb.out c0
      have HX := Lib.hid hx
      obtain ⟨z, hz⟩ : ∃ z, z = ssZ t k := ⟨_, rfl⟩
      have hz7 : z ≤ 7 := by rw [hz]; exact Nat.le_trans (ssZ_le t k) (by omega)
      have HZ := Lib.hid hz
      rw [← hz]
      obtain ⟨q5, k5, rfl, _, _⟩ := ho.out.shape
      clear hx hc hxc hz c0
      by_cases hx0 : x = 0
      · have Hn1 := Lib.hid (show ssZ t (k + 1) = z + 1 by rw [ssZ, if_pos (by rw [← HX.out]; exact hx0), HZ.out])
        have Hn2 := Lib.hid (show ssR t (k + 1) = ssR t k by rw [ssR, if_pos (by rw [← HX.out]; exact hx0)])
        go_wp2_with fail
        go_roundg (t.length - (k + 1))
        case measure => omega
        case rel => exact ⟨k + 1, by omega, rfl, by go_num, by rw [Hn1.out]; go_num, by rw [Hn2.out]; exact ho, hb⟩
      · have Hn1 := Lib.hid (show ssZ t (k + 1) = z by rw [ssZ, if_neg (by rw [← HX.out]; exact hx0), HZ.out])
        have Hn2 := Lib.hid (show ssR t (k + 1) = (z : Int) :: ssR t k by rw [ssR, if_neg (by rw [← HX.out]; exact hx0), HZ.out])
        obtain ⟨L, hL⟩ : ∃ L, L = ssR t k := ⟨_, rfl⟩
        have hL7 : L.length ≤ 7 := by rw [hL]; exact Nat.le_trans (ssR_len t k) (by omega)
        rw [← hL] at ho Hn2 ⊢
        obtain ⟨n, hn⟩ : ∃ n, n = L.length := ⟨_, rfl⟩
        have Hrd := Lib.hid (show Rd wr (.slice q5 n k5) n (iv L) by rw [hn]; exact ho.out.ints)
        have Hn := Lib.hid hn
        rw [← hn] at hL7 ho ⊢
        have Hb1 := Lib.hid (show 1 + n ≤ maxLen by unfold maxLen; omega)
        have Hb2 := Lib.hid (show (1 + n) * 8 ≤ 140737488355328 by omega)
        clear hL hn
        go_wp2_with (at_builtin; go_must (refine wpList_append_F rfl (.tmp 24) (.tmp 25) 24 rfl 3 (.int .i64 0) 8 Try.underlying24 info_int rfl wr.heap.size (wr.heap.size + 1) _ 1 (fun _ => .int .i64 (z : Int)) rfl (OwnF.made1 wr 3 _) (by rw [size_alloc]; omega) (by rw [size_alloc]; omega) _ n (iv L) rfl (Hrd.out.below (below_alloc wr _)) (fun j _ => rfl) Hb1.out Hb2.out ?_; intro v2 w2 ho2 hg2))
        go_roundg (t.length - (k + 1))
        case measure => omega
        case rel =>
          have hbx : Below wr.heap.size wr w2 := (below_alloc wr _).trans (grownBy_below hg2 (OwnF.made1 wr 3 (.int .i64 (z : Int))).blocks (Nat.le_refl _) (by rw [size_alloc]; omega))
          exact ⟨k + 1, by omega, rfl, by go_num, by rw [Hn1.out], by rw [Hn2.out]; exact Lib.hid ((OwnI.cons1 Hn.out ho2).mono hsr (Nat.le_refl _)), Lib.hid (hb.out.trans (hbx.mono hsr))⟩
    · obtain rfl : k = t.length := by omega
      have hlt2 : ¬ (t.length : Int) < (t.length : Int) := by omega
      have hl7 : (ssR t t.length).length ≤ 7 := Nat.le_trans (ssR_len t _) h7
      obtain ⟨L, hL⟩ : ∃ L, L = ssR t t.length := ⟨_, rfl⟩
      rw [← hL] at ho hl7
      have HL := Lib.hid hL
      have Hoi := Lib.hid ho.out.ints
      obtain ⟨q5, k5, rfl, _, _⟩ := ho.out.shape
      clear ho hL hxc
      go_wp2_with fail
      refine (shapeOfRows_any _ L _ Hoi.out).mono ?_
      rintro e w2 ⟨u, rfl, hi, hq⟩
      have Hi := Lib.hid hi
      obtain ⟨p1, c1, rfl, _, _⟩ := hi
      go_wp2_with fail
      refine bodyPost_ret (v := .tuple #[.slice p1 (shL L).length c1, .int .i64 (L.length : Int), .bool true]) (by simp [results, Try.results27, go_sem]) rfl ?_
      rw [← HL.out]
      exact ⟨_, rfl, Hi.out, hb.out.trans (hq.below _)⟩

/-! ### what a shape leaves of its box -/

def duR (xs : List Int) (r c : Nat) : List Int := (List.range r).map fun b => (c : Int) - (r : Int) - xs.getD (r - 1 - b) 0
theorem duR_length (xs : List Int) (r c : Nat) : (duR xs r c).length = r := by simp [duR]
theorem duR_getD {xs : List Int} {r c b : Nat} (h : b < r) : (duR xs r c).getD b 0 = (c : Int) - (r : Int) - xs.getD (r - 1 - b) 0 := by simp [duR, List.getD_eq_getElem?_getD, h]
def duP (xs : List Int) (r c k : Nat) : List Int := (duR xs r c).take k
theorem duP_length {xs : List Int} {r c k : Nat} (h : k ≤ r) : (duP xs r c k).length = k := by simp [duP, duR_length]; omega
theorem duP_succ {xs : List Int} {r c k : Nat} (h : k < r) : duP xs r c (k + 1) = duP xs r c k ++ [(c : Int) - (r : Int) - xs.getD (r - 1 - k) 0] := by
  have hk : k < (duR xs r c).length := by rw [duR_length]; exact h
  unfold duP
  rw [List.take_succ, List.getElem?_eq_getElem hk, Option.toList, ← getD_lt hk, duR_getD h]
theorem rowOf_s2 (v : Value) (xs : List Int) (i : Nat) (s : Int) (hs : s = xs.getD i 0) (hi : i ≤ 1000000) (w : World) (h : Ints w v xs) :
    Calls Try.prog 63 #[v, .int .i64 (i : Int)] w fun e w' => e = .returned (.int .i64 s) ∧ Qt w w' := by
  rw [hs]
  exact rowOf_any v xs i w h hi

set_option maxRecDepth 100000 in
set_option maxHeartbeats 2000000 in
theorem DualShape_any (v : Value) (xs : List Int) (r c : Nat) (w : World) (h : Ints w v xs) (hx : bxOk xs r c = true) (hrc : r ≤ c) (hc0 : 1 ≤ c) (hc7 : c ≤ 7) (hr : ∀ i, i < r → 0 ≤ xs.getD i 0 ∧ xs.getD i 0 ≤ (c : Int) - (r : Int)) :
    Calls Try.prog 28 #[v, .int .i64 (r : Int), .int .i64 (c : Int)] w fun e w' => ∃ u, e = .returned u ∧ Ints w' u (shL (duR xs r c)) ∧ Below w.heap.size w w' := by
  have Hh := Lib.hid h
  have Hx := Lib.hid hx
  clear hx
  obtain ⟨p, cap, rfl, ⟨hx1, hx2⟩, hxc⟩ := h
  unfold maxLen at hx2
  clear hxc
  go_enter Try.func28, Try.ntmps28
  go_wp2_with fail
  refine (IsInBox_any _ xs r c _ (Hh.out.below (below_alloc w _)) hrc hc0 hc7).mono ?_
  rintro e w1 ⟨rfl, hq1⟩
  rw [Hx.out]
  have HB1 := Lib.hid ((below_alloc w (.cells #[] 3)).trans (hq1.below _))
  have HO1 := Lib.hid (show OwnI 3 w1 w.heap.size w1.heap.size (.slice (some ⟨w.heap.size, 0, none⟩) 0 0) [] from ((OwnF.ints (xs := []) (OwnF.made0 w 3 (iv []))).below (hq1.below _)).mono (Nat.le_refl _) (by rw [hq1.size]; simp))
  clear hq1
  go_wp2_with fail
  go_loopg [7, 8] (r + 1) (fun g s7 s8 wr => ∃ k : Nat, k ≤ r ∧ g = r - k + 1 ∧ s8 = .int .i64 ((r : Int) - 1 - (k : Int)) ∧ Hid (OwnI 3 wr w.heap.size wr.heap.size s7 (duP xs r c k)) ∧ Hid (Below w.heap.size w wr))
  case atStart => exact ⟨0, Nat.zero_le _, rfl, by go_num, HO1, HB1⟩
  case round =>
    obtain ⟨k, hk, rfl, rfl, ho, hb⟩ := hrel
    have hsr := hb.out.size
    by_cases hlt : k < r
    · obtain ⟨m, hm⟩ : ∃ m, m = r - 1 - k := ⟨_, rfl⟩
      have hmi : (r : Int) - 1 - (k : Int) = (m : Int) := by omega
      rw [hmi]
      have hm0 : (0 : Int) ≤ (m : Int) := by omega
      obtain ⟨s, hs⟩ : ∃ s, s = xs.getD m 0 := ⟨_, rfl⟩
      have hs1 := hr m (by omega)
      rw [← hs] at hs1
      have Hs := Lib.hid hs
      have Hn := Lib.hid (show duP xs r c (k + 1) = duP xs r c k ++ [(c : Int) - (r : Int) - s] by rw [duP_succ hlt, hs, hm])
      obtain ⟨q7, k7, e7, _, _⟩ := ho.out.shape
      rw [duP_length hk] at e7
      subst e7
      have hofn := ho.out.fn
      rw [duP_length hk] at hofn
      have Ho := Lib.hid hofn
      have Hm := Lib.hid hm
      have Hmi := Lib.hid hmi
      have Hb1 := Lib.hid (show k + 1 ≤ maxLen by unfold maxLen; omega)
      have Hb2 := Lib.hid (show (k + 1) * 8 ≤ 140737488355328 by omega)
      clear hs hm hmi ho hofn
      go_wp2_with fail
      refine (rowOf_s2 _ xs m s Hs.out (by have := Hm.out; omega) _ (Hh.out.below hb.out)).mono ?_
      rintro e w2 ⟨rfl, hq⟩
      have HQ := Lib.hid hq
      have hsq := hq.size
      clear hq
      go_wp2_with (at_builtin; go_must (refine wpList_append_F rfl (.tmp 22) (.tmp 30) 24 rfl 3 (.int .i64 0) 8 Try.underlying24 info_int rfl w.heap.size wr.heap.size _ k (iv (duP xs r c k)) rfl ((Ho.out.below (HQ.out.below _)).below (below_alloc _ _)) (by rw [size_alloc]; omega) (by rw [size_alloc]; omega) _ 1 _ rfl (rd_one _ _ _ HQ.out.size.symm) (fun j _ => rfl) Hb1.out Hb2.out ?_; intro v2 w3 ho2 hg2))
      go_roundg (r - (k + 1) + 1)
      case measure => omega
      case rel =>
        have hbx : Below w.heap.size wr w3 := ((HQ.out.below _).trans ((below_alloc w2 _).mono (by omega))).trans (grownBy_below hg2 Ho.out.blocks (Nat.le_refl _) (by rw [size_alloc]; omega))
        refine ⟨k + 1, by omega, rfl, ?_, ?_, Lib.hid (hb.out.trans hbx)⟩
        · have := Hmi.out
          exact congrArg (Value.int .i64) ((w64 (n := (m : Int) - 1) (by omega) (by omega)).trans (by omega))
        · rw [Hn.out]
          exact Lib.hid (OwnI.snoc1 (by rw [duP_length hk]; exact ho2))
    · obtain rfl : k = r := by omega
      have hm0 : ¬ (0 : Int) ≤ (k : Int) - 1 - (k : Int) := by omega
      have hoi := ho.out.ints
      obtain ⟨q7, k7, e7, _, _⟩ := ho.out.shape
      rw [duP_length hk] at e7
      subst e7
      rw [show duP xs k c k = duR xs k c by unfold duP; exact List.take_of_length_le (by rw [duR_length]; exact Nat.le_refl _)] at hoi
      have Hoi := Lib.hid hoi
      clear ho hoi
      go_wp2_with fail
      refine (shapeOfRows_any _ (duR xs k c) _ Hoi.out).mono ?_
      rintro e w2 ⟨u, rfl, hi, hq⟩
      have Hi := Lib.hid hi
      obtain ⟨p1, c1, rfl, _, _⟩ := hi
      go_wp2_with fail
      go_ret
      exact ⟨_, rfl, Hi.out, hb.out.trans (hq.below _)⟩

/-! ### one shape in another -/

def cnB (a b : List Int) : Bool := shOk a && shOk b && decide (b.length ≤ a.length) && decide (∀ i, i < b.length → b.getD i 0 ≤ a.getD i 0)
theorem cnB_no1 {a b : List Int} (h : shOk a = false) : cnB a b = false := by simp [cnB, h]
theorem cnB_no2 {a b : List Int} (h : shOk b = false) : cnB a b = false := by simp [cnB, h]
theorem cnB_no3 {a b : List Int} (h : ¬ b.length ≤ a.length) : cnB a b = false := by simp [cnB, h]
theorem cnB_no4 {a b : List Int} {i : Nat} (hi : i < b.length) (h : ¬ b.getD i 0 ≤ a.getD i 0) : cnB a b = false := by
  unfold cnB
  rw [show decide (∀ i, i < b.length → b.getD i 0 ≤ a.getD i 0) = false from decide_eq_false fun e => h (e i hi), Bool.and_false]
theorem cnB_yes {a b : List Int} (h1 : shOk a = true) (h2 : shOk b = true) (h3 : b.length ≤ a.length) (h4 : ∀ i, i < b.length → b.getD i 0 ≤ a.getD i 0) : cnB a b = true := by
  unfold cnB
  rw [h1, h2, decide_eq_true h3, decide_eq_true h4]; rfl

set_option maxRecDepth 100000 in
set_option maxHeartbeats 2000000 in
theorem ContainsShape_any (u v : Value) (a b : List Int) (w : World) (ha : Ints w u a) (hb : Ints w v b) :
    Calls Try.prog 30 #[u, v] w fun e w' => e = .returned (.bool (cnB a b)) ∧ Qt w w' := by
  have HA := Lib.hid ha
  have HB := Lib.hid hb
  obtain ⟨p, cap, rfl, ⟨hx1, hx2⟩, hxc⟩ := ha
  obtain ⟨p', cap', rfl, ⟨hy1, hy2⟩, hyc⟩ := hb
  unfold maxLen at hx2 hy2
  go_enter Try.func30, Try.ntmps30
  go_wp2_with fail
  refine (implIsShape_any _ a _ HA.out).mono ?_
  rintro e w1 ⟨rfl, hq1⟩
  cases h1 : shOk a with
  | false =>
    go_wp2_with fail
    go_ret
    exact ⟨ret_bool (cnB_no1 h1).symm, hq1⟩
  | true =>
  have H1 := Lib.hid h1
  clear h1
  go_wp2_with fail
  refine (implIsShape_any _ b _ (HB.out.qt hq1)).mono ?_
  rintro e w2 ⟨rfl, hq2⟩
  cases h2 : shOk b with
  | false =>
    go_wp2_with fail
    go_ret
    exact ⟨ret_bool (cnB_no2 h2).symm, hq1.trans hq2⟩
  | true =>
  have H2 := Lib.hid h2
  have HQ := Lib.hid (hq1.trans hq2)
  clear h2 hq1 hq2
  by_cases hl : b.length ≤ a.length
  case neg =>
    have hl2 : ¬ (b.length : Int) ≤ (a.length : Int) := by omega
    go_wp2_with fail
    go_ret
    exact ⟨ret_bool (cnB_no3 hl).symm, HQ.out⟩
  have hl2 : (b.length : Int) ≤ (a.length : Int) := by omega
  go_wp2_with fail
  go_loopg [5, 6, 24] b.length (fun g s5 s6 i wr => ∃ k : Nat, k ≤ b.length ∧ g = b.length - k ∧ i = .int .i64 k ∧ Qt w wr ∧ Hid (∀ j, j < k → b.getD j 0 ≤ a.getD j 0))
  case atStart => exact ⟨0, Nat.zero_le _, rfl, rfl, HQ.out, Lib.hid fun j hj => absurd hj (Nat.not_lt_zero _)⟩
  case round =>
    obtain ⟨k, hk, rfl, rfl, hq, hp⟩ := hrel
    by_cases hlt : k < b.length
    · obtain ⟨g1, o1, rfl, hc⟩ := hxc (by omega)
      obtain ⟨g2, o2, rfl, hd⟩ := hyc (by omega)
      obtain ⟨x, hx⟩ : ∃ x, x = a.getD k 0 := ⟨_, rfl⟩
      obtain ⟨y, hy⟩ : ∃ y, y = b.getD k 0 := ⟨_, rfl⟩
      have c1 := hq.cell (hc k (by omega))
      have c2 := hq.cell (hd k hlt)
      unfold iv at c1 c2
      rw [← hx] at c1
      rw [← hy] at c2
      have Hx := Lib.hid hx
      have Hy := Lib.hid hy
      clear hx hy hc hd hxc hyc
      have hk1 : (k : Int) < (b.length : Int) := by omega
      have hk2 : (k : Int) < (a.length : Int) := by omega
      by_cases hyx : y ≤ x
      · go_wp2_with fail
        go_roundg (b.length - (k + 1))
        case measure => omega
        case rel =>
          refine ⟨k + 1, by omega, rfl, by go_num, hq, Lib.hid fun j hj => ?_⟩
          by_cases e : j = k
          · subst e; rw [← Hx.out, ← Hy.out]; exact hyx
          · exact hp.out j (by omega)
      · go_wp2_with fail
        go_ret
        exact ⟨ret_bool (cnB_no4 hlt (by rw [← Hx.out, ← Hy.out]; omega)).symm, hq⟩
    · have hk1 : ¬ (k : Int) < (b.length : Int) := by omega
      go_wp2_with fail
      go_ret
      exact ⟨ret_bool (cnB_yes H1.out H2.out hl fun j hj => hp.out j (by omega)).symm, hq⟩

end Go.Proofs.Ytoodgbflaaabmaa
