/-
  SpaceString, on both sides.
-/
import Derived.Test.YtjofekjhkjjaoaaSpace
namespace Go.Proofs.Ytjofekjhkjjaoaa
set_option linter.all false
open Go.RowKit

/-- 1 at the first i of the columns q, 0 elsewhere -/
def strAt (q : Nat → Nat) (i j : Nat) : Int := if (List.range i).any (fun t => q t == j) then 1 else 0
def strL (C : Nat) (q : Nat → Nat) (n : Nat) : List Int := (List.range C).map fun j => strAt q n j
theorem strAt_zero (q : Nat → Nat) (j : Nat) : strAt q 0 j = 0 := by simp [strAt]
theorem strAt_succ (q : Nat → Nat) (i j : Nat) : strAt q (i + 1) j = if j = q i then 1 else strAt q i j := by
  unfold strAt
  rw [List.range_succ, List.any_append]
  by_cases e : j = q i
  · subst e; simp
  · have : (q i == j) = false := by simp; exact fun h => e h.symm
    simp [e, this]
theorem strL_length (C : Nat) (q : Nat → Nat) (n : Nat) : (strL C q n).length = C := by simp [strL]
theorem strL_congr {C n : Nat} {q q' : Nat → Nat} (h : ∀ i, i < n → q i = q' i) : strL C q n = strL C q' n := by
  unfold strL strAt
  refine List.map_congr_left fun j _ => ?_
  have : (List.range n).any (fun t => q t == j) = (List.range n).any (fun t => q' t == j) := by
    rw [Bool.eq_iff_iff]
    simp only [List.any_eq_true, List.mem_range]
    constructor
    · rintro ⟨t, ht, e⟩; exact ⟨t, ht, by rw [← h t ht]; exact e⟩
    · rintro ⟨t, ht, e⟩; exact ⟨t, ht, by rw [h t ht]; exact e⟩
  rw [this]

/-- what SpaceString returns -/
def StIs (P R C : Int) (D : List Int) (l : List Int) : Prop :=
  (IkIs P R C D true → ∃ (n : Nat) (M : Nat → Nat → Int) (q : Nat → Nat), IsRed P C.toNat R.toNat (mf C.toNat fun t => D.getD t 0) n M q ∧ l = strL C.toNat q n) ∧ (IkIs P R C D false → l = [])
theorem ik_or (P R C : Int) (D : List Int) : IkIs P R C D true ∨ IkIs P R C D false := by
  by_cases h : mxOk P R C D = true ∧ SpIs P R C D ⟨P, R, C, D⟩
  · exact .inl ⟨fun _ => h, fun _ => rfl⟩
  · exact .inr ⟨fun e => absurd e (by decide), fun e => absurd e h⟩
theorem ik_ok {P R C : Int} {D : List Int} (h : IkIs P R C D true) : mxOk P R C D = true ∧ SpIs P R C D ⟨P, R, C, D⟩ := h.1 rfl
theorem StIs.one {P R C : Int} {D l l' : List Int} (h : StIs P R C D l) (h' : StIs P R C D l') : l = l' := by
  rcases ik_or P R C D with hk | hk
  · obtain ⟨n, M, q, h1, rfl⟩ := h.1 hk
    obtain ⟨n', M', q', h1', rfl⟩ := h'.1 hk
    obtain ⟨_, _, _, _, _, _, _, _, _, hP, _⟩ := mxOk_facts (ik_ok hk).1
    obtain ⟨e1, e2, _⟩ := h1.one hP h1'
    subst e1
    exact strL_congr e2
  · rw [h.2 hk, h'.2 hk]
theorem StIs.len {P R C : Int} {D l : List Int} (h : StIs P R C D l) : l.length ≤ 1000 := by
  rcases ik_or P R C D with hk | hk
  · obtain ⟨n, M, q, h1, rfl⟩ := h.1 hk
    obtain ⟨r, c, rfl, rfl, hr, _, hc, _⟩ := mxOk_facts (ik_ok hk).1
    rw [strL_length]
    simp only [Int.toNat_natCast]
    omega
  · rw [h.2 hk]; simp
def StQ (P R C : Int) (D l : List Int) : Prop := StIs P R C D l ∨ ((∀ m', ¬ StIs P R C D m') ∧ l = [])
theorem StQ.ex (P R C : Int) (D : List Int) : ∃ m, StQ P R C D m := by
  by_cases h : ∃ m, StIs P R C D m
  · obtain ⟨m, h⟩ := h
    exact ⟨m, .inl h⟩
  · exact ⟨[], .inr ⟨fun m hm => h ⟨m, hm⟩, rfl⟩⟩
theorem StIs.eps {P R C : Int} {D m : List Int} (h : StIs P R C D m) : m = Classical.epsilon (StQ P R C D) := by
  rcases Classical.epsilon_spec (StQ.ex P R C D) with h2 | ⟨h2, _⟩
  · exact h.one h2
  · exact absurd h (h2 m)
theorem str_len (P R C : Int) (D : List Int) : (Classical.epsilon (StQ P R C D)).length ≤ 1000 := by
  rcases Classical.epsilon_spec (StQ.ex P R C D) with h | ⟨_, h⟩
  · exact h.len
  · rw [h]; simp
/-- the rows of a space have their first numbers in the columns of its span -/
theorem space_piv {P : Int} {r c : Nat} {D : List Int} (h : IkIs P r c D true) : ∃ (M : Nat → Nat → Int) (q : Nat → Nat), IsRed P c r (mf c fun t => D.getD t 0) r M q ∧ ∀ i, i < r → pivL (rowAt c D i) = q i ∧ q i < c := by
  obtain ⟨h1, h2⟩ := ik_ok h
  unfold SpIs at h2
  rw [if_pos h1] at h2
  obtain ⟨n, M, q, hr, _, e⟩ := h2
  injection e with _ e2 _ e4
  obtain ⟨r', c', e5, e6, _, hc0, _, hlD, _⟩ := mxOk_facts h1
  have e5 := Int.ofNat.inj e5
  have e6 := Int.ofNat.inj e6
  subst e5 e6
  have e2 : r = n := Int.ofNat.inj e2
  subst e2
  simp only [Int.toNat_natCast] at hr e4
  refine ⟨M, q, hr, fun i hi => ?_⟩
  have hlt := hr.1.lt i hi
  have hM : ∀ j, j < c → (rowAt c D i).getD j 0 = M i j := fun j hj => by
    rw [rowAt_getD hj, e4]
    obtain ⟨d1, d2⟩ := div_at (k := i) hj
    have hb : i * c + j < r * c := by
      have := mul_le_of (C := c) hi
      rw [Nat.add_mul, Nat.one_mul] at this
      omega
    unfold flatM
    rw [List.getD_eq_getElem?_getD]
    simp [hb, d1, d2]
  have hl : (rowAt c D i).length = c := rowAt_length (by rw [hlD]; exact mul_le_of hi)
  refine ⟨pivL_at (by omega) ?_ fun j hj => ?_, hlt⟩
  · rw [hM _ hlt, hr.1.unit i i hi hi, if_pos rfl]; decide
  · rw [hM _ (by omega)]; exact hr.1.lead i j hi hj

set_option maxRecDepth 100000 in
set_option maxHeartbeats 2000000 in
theorem specSpaceString_ex (P R C : Int) (d : Value) (D : List Int) (w : World) (hd : Ints w d D) :
    Calls Try.prog 24 #[.agg #[.int .i64 P, .int .i64 R, .int .i64 C, d]] w fun e w' => ∃ l, StIs P R C D l ∧ RetI w l e w' := by
  have Hd := Lib.hid hd
  obtain ⟨p, cap, rfl, ⟨_, mx⟩, _⟩ := hd
  unfold maxLen at mx
  rcases ik_or P R C D with hk | hk
  · have h1 := (ik_ok hk).1
    obtain ⟨r, c, rfl, rfl, hr, hc0, hc, hlD, hD, hP2, hP7, hpr⟩ := mxOk_facts h1
    have HK := Lib.hid hk
    have HL := Lib.hid (fun W (hW : Ints W (.slice p D.length cap) D) => l7Reduce_any P r c _ D W hW hlD (fun t => getD_range hD (by omega) t) hpr (by omega) (by omega))
    have hmk := run_make_row' (P := Try.prog) 22 3 (.int .i64 0) 8 Try.underlying22 info_int rfl .i64 .i64 c (by omega) (by omega)
    have Z := Lib.hid (heap_alloc_top w (.cells #[.int .i64 P, .int .i64 (r : Int), .int .i64 (c : Int), .slice p D.length cap] 27))
    have Hba := Lib.hid (below_alloc w (.cells #[.int .i64 P, .int .i64 (r : Int), .int .i64 (c : Int), .slice p D.length cap] 27))
    have Hmk := Lib.hid hmk
    clear h1 hk hlD hD hpr hmk
    go_enter Try.func24, Try.ntmps24
    go_wp2_with fail
    refine (specIsSpace_ex P r c _ D _ (Hd.out.below Hba.out)).mono ?_
    rintro e w1 ⟨b, rfl, hb, hbl⟩
    obtain rfl : b = true := hb.one HK.out
    have Hb1 := Lib.hid (Hba.out.trans (hbl.mono (by simp)))
    have Z1 := Lib.hid (blk_later Z.out hbl)
    clear hb hbl
    have hmk := Hmk.out
    obtain ⟨c0, c1, c2, c3, cf, cz⟩ := blk4 Z1.out
    go_wp2_with fail
    clear hmk c0 c1 c2 c3 cf cz
    have hrow := World.rowIs_made w1 (.int .i64 0) c 3
    have hbm := below_alloc w1 (.cells (madeCells #[.int .i64 0] c) 3)
    have hs1 := Hb1.out.size
    have hsm : (w1.alloc (.cells (madeCells #[.int .i64 0] c) 3)).heap.size = w1.heap.size + 1 := by simp
    generalize w1.alloc (.cells (madeCells #[.int .i64 0] c) 3) = w2 at *
    have Hrow := Lib.hid hrow
    have Hb2 := Lib.hid (Hb1.out.trans (hbm.mono hs1))
    clear hrow hbm
    refine (HL.out w2 (Hd.out.below Hb2.out)).mono ?_
    rintro e w3 ⟨u, v, h, n, qf, rfl, hu, hv, hb, hn, hrg', hred, hasc, hz, hs⟩
    obtain ⟨p1, k1, rfl, _, _⟩ := hu.shape
    obtain ⟨p2, k2, rfl, hk2, hk2b, _⟩ := hv.shape
    unfold maxLen at hk2b
    have hrd : IsRed P c r (mf c fun t => D.getD t 0) n (mf c h) qf := ⟨hred, hasc, fun i j hi hj => hrg' i j (Nat.lt_of_lt_of_le hi hn) hj, hs⟩
    have Hrd := Lib.hid hrd
    have hs3 := hb.size
    have Hb3 := Lib.hid (Hb2.out.trans (hb.mono (by omega)))
    have Hrow3 := Lib.hid (Hrow.out.of_block (hb.block _ (by omega)))
    have Hv := Lib.hid hv
    clear hu hv hb hrg' hred hasc hz hs hrd Hrow
    go_wp2_with fail
    have hsw : (w3.alloc (.cells #[.int .i64 P, .int .i64 (r : Int), .int .i64 (c : Int), .slice p1 (r * c) k1] 27)).heap.size = w3.heap.size + 1 := by simp
    have hbo := below_alloc w3 (.cells #[.int .i64 P, .int .i64 (r : Int), .int .i64 (c : Int), .slice p1 (r * c) k1] 27)
    generalize w3.alloc (.cells #[.int .i64 P, .int .i64 (r : Int), .int .i64 (c : Int), .slice p1 (r * c) k1] 27) = w4 at *
    have Hv4 := Lib.hid (Hv.out.below hbo)
    have Hrow4 := Lib.hid (Hrow3.out.of_block (hbo.block _ (by omega)))
    have Hb4 := Lib.hid (Hb3.out.trans (hbo.mono (by omega)))
    clear hbo Hv Hrow3
    go_loopg [6] n (fun g s6 wr => ∃ i : Nat, i ≤ n ∧ g = n - i ∧ s6 = .int .i64 i ∧ Hid (Below w.heap.size w wr) ∧ Hid (wr.rowIs w1.heap.size 3 c (fun j => .int .i64 (strAt qf i j))) ∧ Hid (OwnF wr w2.heap.size w3.heap.size 3 (.slice p2 n k2) n (fun k => .int .i64 (qf k : Int))))
    case atStart => exact ⟨0, Nat.zero_le _, rfl, rfl, Hb4.out, Hrow4.out.congr fun j _ => by rw [strAt_zero], Hv4.out⟩
    case round =>
      obtain ⟨i, hi, rfl, rfl, hbx, hrw, hvx⟩ := hrel
      by_cases hlt : i < n
      · obtain ⟨g2, rfl, hg1, hg2, hg3⟩ := hvx.out.at_ (by omega)
        have d1 := hvx.out.cell hlt
        have hql := Hrd.out.1.lt i hlt
        obtain ⟨Q, hQ⟩ : ∃ Q, Q = qf i := ⟨_, rfl⟩
        rw [← hQ] at d1 hql
        obtain ⟨z, d2⟩ : ∃ z, wr.cell? ⟨w1.heap.size, Q, none⟩ = some (.int .i64 z) := ⟨_, hrw.out.cell hql⟩
        have d3 := hrw.out.frozen Q
        have hne : g2 ≠ w1.heap.size := by omega
        have HQ := Lib.hid hQ
        clear hQ
        go_wp2_with fail
        try (go_still_tail 5, (by kernel_rfl); change wpList _ _ _ _ _ wr.drew; go_wp2_with fail)
        go_roundg (n - (i + 1))
        case measure => omega
        case rel =>
          refine ⟨i + 1, by omega, rfl, by go_num, hbx.out.setCell (by show w.heap.size ≤ w1.heap.size; omega) _, (hrw.out.set Q _).congr fun j _ => ?_, hvx.out.setCell (.inl (by show w1.heap.size < _; omega)) _⟩
          rw [strAt_succ, HQ.out]
          by_cases e : j = qf i <;> simp [e]
      · obtain rfl : i = n := by omega
        go_wp2_with fail
        go_ret
        refine ⟨strL c qf i, ⟨fun _ => ⟨i, mf c h, qf, Hrd.out, rfl⟩, fun h => absurd (h.one HK.out) (by decide)⟩, ⟨_, rfl, ?_, hbx.out⟩⟩
        refine OwnF.ints ?_
        rw [strL_length]
        exact OwnF.mk' hrw.out hs1 hrw.out.lt (Nat.le_refl _) (by unfold maxLen; omega) fun j hj => by simp [iv, strL, List.getD_eq_getElem?_getD, hj]
  · have HK := Lib.hid hk
    have Hba := Lib.hid (below_alloc w (.cells #[.int .i64 P, .int .i64 R, .int .i64 C, .slice p D.length cap] 27))
    clear hk
    go_enter Try.func24, Try.ntmps24
    go_wp2_with fail
    refine (specIsSpace_ex P R C _ D _ (Hd.out.below Hba.out)).mono ?_
    rintro e w1 ⟨b, rfl, hb, hbl⟩
    obtain rfl : b = false := hb.one HK.out
    have Hb1 := Lib.hid (Hba.out.trans (hbl.mono (by simp)))
    clear hb hbl
    go_wp2_with fail
    go_ret
    exact ⟨[], ⟨fun h => absurd (h.one HK.out) (by decide), fun _ => rfl⟩, ⟨_, rfl, ⟨World.ownsRow_nil _ _ _ _, fun k hk => by simp [Value.ownBlock] at hk⟩, Hb1.out⟩⟩

set_option maxRecDepth 100000 in
set_option maxHeartbeats 2000000 in
theorem implSpaceString_ex (P R C : Int) (d : Value) (D : List Int) (w : World) (hd : Ints w d D) :
    Calls Try.prog 25 #[.agg #[.int .i64 P, .int .i64 R, .int .i64 C, d]] w fun e w' => ∃ l, StIs P R C D l ∧ RetI w l e w' := by
  have Hd := Lib.hid hd
  obtain ⟨p, cap, rfl, ⟨_, mx⟩, _⟩ := hd
  unfold maxLen at mx
  rcases ik_or P R C D with hk | hk
  · have h1 := (ik_ok hk).1
    obtain ⟨r, c, rfl, rfl, hr, hc0, hc, hlD, hD, hP2, hP7, hpr⟩ := mxOk_facts h1
    obtain ⟨M, q, hrd, hpv⟩ := space_piv hk
    have HK := Lib.hid hk
    have Hrd := Lib.hid hrd
    have Hpv := Lib.hid hpv
    have HlD := Lib.hid hlD
    have hmk := run_make_row' (P := Try.prog) 22 3 (.int .i64 0) 8 Try.underlying22 info_int rfl .i64 .i64 c (by omega) (by omega)
    have Z := Lib.hid (heap_alloc_top w (.cells #[.int .i64 P, .int .i64 (r : Int), .int .i64 (c : Int), .slice p D.length cap] 27))
    have Hba := Lib.hid (below_alloc w (.cells #[.int .i64 P, .int .i64 (r : Int), .int .i64 (c : Int), .slice p D.length cap] 27))
    have Hmk := Lib.hid hmk
    clear h1 hk hlD hD hpr hmk hrd hpv
    go_enter Try.func25, Try.ntmps25
    go_wp2_with fail
    refine (implIsSpace_ex P r c _ D _ (Hd.out.below Hba.out)).mono ?_
    rintro e w1 ⟨b, rfl, hb, hbl⟩
    obtain rfl : b = true := hb.one HK.out
    have Hb1 := Lib.hid (Hba.out.trans (hbl.mono (by simp)))
    have Z1 := Lib.hid (blk_later Z.out hbl)
    clear hb hbl
    have hmk := Hmk.out
    obtain ⟨c0, c1, c2, c3, cf, cz⟩ := blk4 Z1.out
    go_wp2_with fail
    clear hmk c0 c1 c2 c3 cf cz
    have hrow := World.rowIs_made w1 (.int .i64 0) c 3
    have hbm := below_alloc w1 (.cells (madeCells #[.int .i64 0] c) 3)
    have hs1 := Hb1.out.size
    have hsm : (w1.alloc (.cells (madeCells #[.int .i64 0] c) 3)).heap.size = w1.heap.size + 1 := by simp
    generalize w1.alloc (.cells (madeCells #[.int .i64 0] c) 3) = w2 at *
    have Hrow := Lib.hid hrow
    have Hb2 := Lib.hid (Hb1.out.trans (hbm.mono hs1))
    clear hrow hbm
    refine (lines_any P r c _ D _ (Hd.out.below Hb2.out) (by omega) (by omega) hc0 HlD.out).mono ?_
    rintro e w3 ⟨u, rfl, hoL, hb⟩
    have hnl := rowsOf_length r c D
    obtain ⟨F, g1, g2, g3⟩ := hoL
    have g1 := g1.cut hnl
    obtain ⟨p2, k2, rfl, hk2, hk2b, _⟩ := g1.shape
    unfold maxLen at hk2b
    have hs3 := hb.size
    have Hb3 := Lib.hid (Hb2.out.trans (hb.mono (by omega)))
    have Hrow3 := Lib.hid (Hrow.out.of_block (hb.block _ (by omega)))
    have G1 := Lib.hid g1
    have G2 := Lib.hid (fun i (hi : i < r) => g2 i (by omega))
    clear g1 g2 g3 hb Hrow hnl
    go_wp2_with fail
    go_loopg [5, 15] r (fun g s5 s15 wr => ∃ i : Nat, i ≤ r ∧ g = r - i ∧ s15 = .int .i64 i ∧ Hid (Frm w1.heap.size (w1.heap.size + 1) w3 wr) ∧ Hid (wr.rowIs w1.heap.size 3 c (fun j => .int .i64 (strAt q i j))))
    case atStart => exact ⟨0, Nat.zero_le _, rfl, rfl, Frm.refl _ _ _, Hrow3.out.congr fun j _ => by rw [strAt_zero]⟩
    case round =>
      obtain ⟨i, hi, rfl, rfl, hfx, hrw⟩ := hrel
      by_cases hlt : i < r
      · have g1 := G1.out.frm hfx.out (.inr (by omega))
        obtain ⟨g2, rfl, hg1, hg2, hg3⟩ := g1.at_ (by omega)
        have d1 := g1.cell hlt
        have hrwl : (rowAt c D i).length = c := rowAt_length (by rw [HlD.out]; exact mul_le_of hlt)
        have hI := (G2.out i hlt).frm hfx.out (.inr (by omega))
        rw [rowsOf_getD hlt] at hI
        obtain ⟨pt, kt, et, hnt, hkt⟩ := hI.shapeC hrwl
        unfold maxLen at hkt
        rw [et] at d1 hI
        obtain ⟨hpe, hql⟩ := Hpv.out i hlt
        have hpi := pivot_any _ _ wr hI.ints
        rw [hpe] at hpi
        obtain ⟨Q, hQ⟩ : ∃ Q, Q = q i := ⟨_, rfl⟩
        rw [← hQ] at hpi hql
        have Hpi := Lib.hid hpi
        have HQ := Lib.hid hQ
        clear hQ hpi hI g1 et hpe hrwl
        go_wp2_with fail
        refine Hpi.out.mono ?_
        rintro e wy ⟨rfl, hq⟩
        have hrw2 := hrw.out.of_block (by rw [hq.heap])
        obtain ⟨z, d2⟩ : ∃ z, wy.cell? ⟨w1.heap.size, Q, none⟩ = some (.int .i64 z) := ⟨_, hrw2.cell hql⟩
        have d3 := hrw2.frozen Q
        have Hrw2 := Lib.hid hrw2
        have Hfy := Lib.hid (hfx.out.trans (hq.frm _ _))
        clear hrw2 hq d1
        go_wp2_with fail
        go_roundg (r - (i + 1))
        case measure => omega
        case rel =>
          refine ⟨i + 1, by omega, rfl, by go_num, ⟨Hfy.out.os, Hfy.out.tape, Hfy.out.output, by simpa [World.setCell] using Hfy.out.size, fun b hb ho => (Below.heap_setCell _ _ _ _ (by show b ≠ w1.heap.size; omega)).trans (Hfy.out.block b hb ho)⟩, (Hrw2.out.set Q _).congr fun j _ => ?_⟩
          rw [strAt_succ, HQ.out]
          by_cases e : j = q i <;> simp [e]
      · obtain rfl : i = r := by omega
        go_wp2_with fail
        go_ret
        refine ⟨strL c q i, ⟨fun _ => ⟨i, M, q, Hrd.out, rfl⟩, fun h => absurd (h.one HK.out) (by decide)⟩, ⟨_, rfl, ?_, Hb3.out.trans (hfx.out.below hs1 (by omega))⟩⟩
        refine OwnF.ints ?_
        rw [strL_length]
        exact OwnF.mk' hrw.out hs1 hrw.out.lt (Nat.le_refl _) (by unfold maxLen; omega) fun j hj => by simp [iv, strL, List.getD_eq_getElem?_getD, hj]
  · have HK := Lib.hid hk
    have Hba := Lib.hid (below_alloc w (.cells #[.int .i64 P, .int .i64 R, .int .i64 C, .slice p D.length cap] 27))
    clear hk
    go_enter Try.func25, Try.ntmps25
    go_wp2_with fail
    refine (implIsSpace_ex P R C _ D _ (Hd.out.below Hba.out)).mono ?_
    rintro e w1 ⟨b, rfl, hb, hbl⟩
    obtain rfl : b = false := hb.one HK.out
    have Hb1 := Lib.hid (Hba.out.trans (hbl.mono (by simp)))
    clear hb hbl
    go_wp2_with fail
    go_ret
    exact ⟨[], ⟨fun h => absurd (h.one HK.out) (by decide), fun _ => rfl⟩, ⟨_, rfl, ⟨World.ownsRow_nil _ _ _ _, fun k hk => by simp [Value.ownBlock] at hk⟩, Hb1.out⟩⟩

theorem specSpaceString_any (P R C : Int) (d : Value) (D : List Int) (w : World) (hd : Ints w d D) :
    Calls Try.prog 24 #[.agg #[.int .i64 P, .int .i64 R, .int .i64 C, d]] w (RetI w (Classical.epsilon (StQ P R C D))) :=
  (specSpaceString_ex P R C d D w hd).mono fun e w' ⟨m, h1, h2⟩ => h1.eps ▸ h2
theorem implSpaceString_any (P R C : Int) (d : Value) (D : List Int) (w : World) (hd : Ints w d D) :
    Calls Try.prog 25 #[.agg #[.int .i64 P, .int .i64 R, .int .i64 C, d]] w (RetI w (Classical.epsilon (StQ P R C D))) :=
  (implSpaceString_ex P R C d D w hd).mono fun e w' ⟨m, h1, h2⟩ => h1.eps ▸ h2

end Go.Proofs.Ytjofekjhkjjaoaa
