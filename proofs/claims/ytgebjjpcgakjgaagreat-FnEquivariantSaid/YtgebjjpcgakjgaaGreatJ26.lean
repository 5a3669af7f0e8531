/-
  MulPerms; EmbedPerm.
  What the classes of an equivariant product have in common; those of full length are the classes of the product of Schubert polynomials. Plain.
  The draws: a new cursor.
  The draws: a permutation.
  The draws: different numbers, in any order or ascending.
  spec.DrawPairs: two permutations and different numbers. (Printed by gen_dpairs.py.)
-/
import Derived.Test.YtgebjjpcgakjgaaGreatJ25
import Derived.Test.YtgebjjpcgakjgaaGreatJ12
import Derived.Test.YtgebjjpcgakjgaaGreatJ19
import Derived.Deep.RegionLaw
import Derived.Test.YtgebjjpcgakjgaaGreatJ5
import Derived.Test.YtgebjjpcgakjgaaGreatJ4
import Derived.Test.YtgebjjpcgakjgaaGreatJ3
import Derived.Deep.RegionHeld3
import Derived.Test.YtgebjjpcgakjgaaGreatJ10
import Derived.OwnWalk
namespace Go.Proofs.YtgebjjpcgakjgaaGreat
set_option linter.all false
set_option maxRecDepth 100000
open Go.RowKit Go.Maps Go.WideMaps Go.WideElems Go.MapKept Go.ChangeMaps Go.ChangeShapes

theorem exd_co {P : Pl} {L : List Cls} (h : exdOk P L = true) (e : List Int) : -1000000 ≤ cfP P e ∧ cfP P e ≤ 1000000 := by
  match L, h with
  | [], h =>
    have : P = [] := by unfold exdOk at h; simpa using h
    rw [this]
    show (-1000000 : Int) ≤ 0 ∧ (0 : Int) ≤ 1000000
    omega
  | x :: L, h =>
    unfold exdOk at h
    rw [Bool.and_eq_true] at h
    obtain ⟨_, hs⟩ := stp_is h.1
    exact hs.co e
structure ExIs (n i j : Nat) : Prop where
  ok : exdOk (mulN (symS (pmA n i)) (symS (pmA n j))) (mR n i j) = true
  cls : clsOk (srtC (mR n i j)) = true
  len : (mR n i j).length ≤ 90
  nod : ((mR n i j).map (·.1)).Nodup
  top : (srtC (mR n i j)).filter (fun e => decide (e.1.length ≤ n)) = topT n i j
theorem exIs {n i j : Nat} (h1 : 1 ≤ n) (h4 : n ≤ 4) (hi : i < fact n) (hj : j < fact n) : ExIs n i j := by
  have := ex_at h1 h4 hi hj
  unfold exB1 at this
  simp only [Bool.and_eq_true, decide_eq_true_eq] at this
  obtain ⟨⟨⟨⟨a, b⟩, c⟩, d⟩, e⟩ := this
  exact ⟨a, b, c, d, e⟩

set_option maxHeartbeats 4000000 in
theorem MulPerms_any (n i j : Nat) (v1 v2 : Value) (w : World) (h1 : 1 ≤ n) (h4 : n ≤ 4) (hi : i < fact n) (hj : j < fact n) (p1 : P5 n (pmA n i)) (p2 : P5 n (pmA n j)) (i1 : Ints w v1 (pmA n i)) (i2 : Ints w v2 (pmA n j)) :
    Calls Tryz.prog 7 #[v1, v2] w fun e w' => ∃ u, e = .returned (.tuple #[u, .bool true]) ∧ RdCl w' u (srtC (mR n i j)) ∧ Below w.heap.size w w' := by
  have X := exIs h1 h4 hi hj
  have HX := Lib.hid X
  obtain ⟨s1, s2⟩ := sym_at h1 h4 hi
  obtain ⟨s3, s4⟩ := sym_at h1 h4 hj
  have hco : ∀ e, -1000000 ≤ cfP (mulP (symS (pmA n i)) (symS (pmA n j))) e ∧ cfP (mulP (symS (pmA n i)) (symS (pmA n j))) e ≤ 1000000 := fun e => by
    have h := exd_co X.ok e
    have e1 : cfP (mulN (symS (pmA n i)) (symS (pmA n j))) e = cfP (mulP (symS (pmA n i)) (symS (pmA n j))) e := Ev_mulN _ _ _
    rw [e1] at h
    exact h
  have H1 := Lib.hid (SchubertPoly_any n v1 (pmA n i) w i1 p1 h4)
  have H2 := Lib.hid (fun u (hu : Below w.heap.size w u) => SchubertPoly_any n v2 (pmA n j) u (i2.below hu) p2 h4)
  have HM := Lib.hid (fun (a b : Value) (t1 t2 : List Cls) (u : World) (r1 : RdCl u a t1) (r2 : RdCl u b t2) (o1 : TsOk t1) (o2 : TsOk t2) (e1 : ∀ g, Ev t1 g = Ev (schP (pmA n i)) g) (e2 : ∀ g, Ev t2 g = Ev (schP (pmA n j)) g) =>
    MulPolys_any a b t1 t2 (symS (pmA n i)) (symS (pmA n j)) u r1 r2 o1 o2 (fun g => (e1 g).trans (symS_eq _ g).symm) (fun g => (e2 g).trans (symS_eq _ g).symm) s1 s3 s2 s4 hco)
  obtain ⟨q1, k1, rfl, _⟩ := i1
  obtain ⟨q2, k2, rfl, _⟩ := i2
  clear X s1 s2 s3 s4 hco
  go_enter Tryz.func7, Tryz.ntmps7
  go_wp2_with fail
  refine H1.out.mono ?_
  rintro e w1 ⟨u1, rfl, t1, ho1, hk1, he1, hb1⟩
  have R1 := Lib.hid ho1.rd
  have K1 := Lib.hid hk1
  have E1 := Lib.hid he1
  have B1 := Lib.hid hb1
  obtain ⟨x1, y1, rfl, _, _⟩ := ho1.shape
  clear ho1 hk1 he1 hb1
  go_wp2_with fail
  refine (H2.out _ B1.out).mono ?_
  rintro e w2 ⟨u2, rfl, t2, ho2, hk2, he2, hb2⟩
  have R2 := Lib.hid ho2.rd
  have K2 := Lib.hid hk2
  have E2 := Lib.hid he2
  have R1' := Lib.hid (R1.out.below hb2)
  have B2 := Lib.hid (below_trans B1.out hb2)
  obtain ⟨x2, y2, rfl, _, _⟩ := ho2.shape
  clear ho2 hk2 he2 hb2
  go_wp2_with fail
  refine (HM.out _ _ t1 t2 w2 R1'.out R2.out K1.out K2.out E1.out E2.out).mono ?_
  rintro e w3 ⟨u3, ts, rfl, hr3, hok3, hev3, hb3⟩
  have HE := Lib.hid (ExpandPoly_any u3 ts _ _ w3 hr3 hok3 (fun g => (hev3 g).trans (Ev_mulN _ _ g).symm) HX.out.ok HX.out.cls HX.out.len HX.out.nod)
  have B3 := Lib.hid (below_trans B2.out hb3)
  obtain ⟨f3, ⟨x3, y3, rfl, _⟩, _⟩ := hr3
  clear hok3 hev3 hb3
  go_wp2_with fail
  refine HE.out.mono ?_
  rintro e w4 ⟨u4, rfl, hr4, hb4⟩
  have R4 := Lib.hid hr4
  have B4 := Lib.hid (below_trans B3.out hb4)
  obtain ⟨f4, ⟨x4, y4, rfl, _⟩, _⟩ := hr4
  clear hb4
  go_wp2_with fail
  go_ret2
  exact ⟨_, rfl, R4.out, B4.out⟩

end Go.Proofs.YtgebjjpcgakjgaaGreat

namespace Go.Proofs.YtgebjjpcgakjgaaGreat
set_option linter.all false
set_option maxRecDepth 100000
open Go.RowKit

def gtB (n : Nat) : Bool := (List.range (fact n)).all fun k => decide (growL (trimL (pmA n k)) n = pmA n k) && permOk (trimL (pmA n k)) && decide ((trimL (pmA n k)).length ≤ n)
theorem gt_dec : ∀ n : Fin 4, gtB (n.val + 1) = true := by decide +kernel
theorem gt_at {n k : Nat} (h1 : 1 ≤ n) (h4 : n ≤ 4) (hk : k < fact n) : growL (trimL (pmA n k)) n = pmA n k ∧ permOk (trimL (pmA n k)) = true ∧ (trimL (pmA n k)).length ≤ n := by
  have := gt_dec ⟨n - 1, by omega⟩
  rw [show (⟨n - 1, by omega⟩ : Fin 4).val + 1 = n by simp; omega] at this
  unfold gtB at this
  have := List.all_eq_true.1 this k (List.mem_range.2 hk)
  simp only [Bool.and_eq_true, decide_eq_true_eq] at this
  exact ⟨this.1.1, this.1.2, this.2⟩
section
variable {n : Nat} {ys : List Int}
theorem ord_lt (hy : YOk n ys) {x : Nat} (hx : x ∈ ordL n) : x < fact n := by
  have OI := ordIs hy.one hy.four
  simpa using OI.perm.mem_iff.1 hx
theorem sumC_congr (hy : YOk n ys) {c c' : List Int → Int} (h : ∀ w, P5 n w → c w = c' w) : sumC n c = sumC n c' := by
  unfold sumC
  have e1 : ((ordL n).filter fun x => !decide (c (pmA n x) = 0)) = (ordL n).filter fun x => !decide (c' (pmA n x) = 0) :=
    List.filter_congr fun x hx => by rw [h _ (pm_p5 hy (ord_lt hy hx))]
  rw [e1]
  congr 1
  exact List.map_congr_left fun x hx => by rw [h _ (pm_p5 hy (ord_lt hy (List.mem_filter.1 hx).1))]
theorem sumC_mem (hy : YOk n ys) {c : List Int → Int} {e : Cls} (he : e ∈ sumC n c) : ∃ k, k < fact n ∧ e = (trimL (pmA n k), c (pmA n k)) ∧ c (pmA n k) ≠ 0 := by
  unfold sumC at he
  obtain ⟨k, hk, rfl⟩ := List.mem_map.1 ((srtC_perm _).mem_iff.1 he)
  obtain ⟨h1, h2⟩ := List.mem_filter.1 hk
  exact ⟨k, ord_lt hy h1, rfl, by simpa using h2⟩
theorem eqL_tab (hy : YOk n ys) (ap : apOk (n : Int) ys = true) {i j : Nat} (hi : i < fact n) (hj : j < fact n) : eqL (pmA n i) (pmA n j) ys = (sumC n (cEx n ys (cR n i j)), true) := by
  have pu := pm_p5 hy hi
  have pv := pm_p5 hy hj
  have hok : eqOk (pmA n i) (pmA n j) ys = true := by
    unfold eqOk
    rw [pu.ok, pv.ok, pu.len, pv.len, ap]
    simp
  rw [eqL_yes hok, pu.len]
  obtain ⟨c, hE, _, h⟩ := expE_prod hy pu pv
  rw [h, sumC_congr hy fun w hw => Ex.uniq hy.len hy.one hy.four hy.dst hE (eq_ex hy hi hj) hw]
theorem eqL_comm (hy : YOk n ys) (ap : apOk (n : Int) ys = true) {i j : Nat} (hi : i < fact n) (hj : j < fact n) : eqL (pmA n j) (pmA n i) ys = (sumC n (cEx n ys (cR n i j)), true) := by
  rw [eqL_tab hy ap hj hi, sumC_congr hy fun w hw => Ex.uniq hy.len hy.one hy.four hy.dst (eq_ex hy hj hi) ((eq_ex hy hi hj).congr fun p _ => Int.mul_comm _ _) hw]
theorem cEx_none : ∀ {l : List (Nat × List Nat)} {w : List Int}, (∀ x ∈ l, w ≠ pmA n x.1) → cEx n ys l w = 0
  | [], _, _ => rfl
  | x :: l, w, h => by
    rw [cEx, cEx_none fun y hy => h y (List.mem_cons_of_mem _ hy), if_neg (h x List.mem_cons_self)]
    simp
/-- the numbers ascend -/
def risY (n : Nat) (ys : List Int) : Prop := ∀ i, 1 ≤ i → i < n → ys.getD (i - 1) 0 < ys.getD i 0
theorem pow_nn {a : Int} {e : Nat} (h : e = 0 ∨ 0 ≤ a) : 0 ≤ a ^ e := by
  rcases h with h | h
  · rw [h, Int.pow_zero]; decide
  · exact Int.pow_nonneg h
theorem ev_nn (hr : risY n ys) : ∀ l : List Nat, l.all (expOk n) = true → 0 ≤ evA ys (decP l)
  | [], _ => Int.le_refl _
  | t :: l, h => by
    rw [List.all_cons, Bool.and_eq_true] at h
    have ih := ev_nn hr l h.2
    have h1 := h.1
    unfold expOk at h1
    simp only [Bool.and_eq_true, Bool.or_eq_true, decide_eq_true_eq, beq_iff_eq] at h1
    have al0 : ∀ k, k + 1 < n → 0 ≤ al ys k := fun k hk => by
      have := hr (k + 1) (by omega) hk
      unfold al
      rw [Nat.add_sub_cancel] at this
      omega
    have hm : 0 ≤ moV ys (t % 8, t / 8 % 8, t / 64 % 8) := by
      unfold moV
      refine Int.mul_nonneg (Int.mul_nonneg (pow_nn ?_) (pow_nn ?_)) (pow_nn ?_)
      · rcases h1.2 with h | h
        · exact .inr (al0 0 (by omega))
        · exact .inl h
      · rcases h1.1.2 with h | h
        · exact .inr (al0 1 (by omega))
        · exact .inl h
      · rcases h1.1.1 with h | h
        · exact .inr (al0 2 (by omega))
        · exact .inl h
    show 0 ≤ ((t / 512 : Nat) : Int) * moV ys (t % 8, t / 8 % 8, t / 64 % 8) + evA ys (decP l)
    have := Int.mul_nonneg (Int.natCast_nonneg (t / 512)) hm
    omega
theorem cEx_nn (hr : risY n ys) (w : List Int) : ∀ l : List (Nat × List Nat), (∀ x ∈ l, x.2.all (expOk n) = true) → 0 ≤ cEx n ys l w
  | [], _ => Int.le_refl _
  | x :: l, h => by
    have ih := cEx_nn hr w l fun y hy => h y (List.mem_cons_of_mem _ hy)
    have h1 := ev_nn hr x.2 (h x List.mem_cons_self)
    rw [cEx]
    split <;> omega
theorem ev_const : ∀ l : List Nat, (∀ t ∈ l, t % 512 = 0) → evA ys (decP l) = (l.map fun t => ((t / 512 : Nat) : Int)).sum
  | [], _ => rfl
  | t :: l, h => by
    have ih := ev_const l fun s hs => h s (List.mem_cons_of_mem _ hs)
    have h0 := h t List.mem_cons_self
    show ((t / 512 : Nat) : Int) * moV ys (t % 8, t / 8 % 8, t / 64 % 8) + evA ys (decP l) = _
    rw [ih, List.map_cons, List.sum_cons, show t % 8 = 0 by omega, show t / 8 % 8 = 0 by omega, show t / 64 % 8 = 0 by omega]
    simp [moV]
theorem cEx_const {i j : Nat} {w : List Int} (hw : lenP w = lenP (pmA n i) + lenP (pmA n j)) : ∀ l : List (Nat × List Nat), (∀ x ∈ l, entB n i j x = true) → cEx n ys l w = kEx n l w
  | [], _ => rfl
  | x :: l, h => by
    have ih := cEx_const hw l fun y hy => h y (List.mem_cons_of_mem _ hy)
    rw [cEx, kEx, ih]
    by_cases e : w = pmA n x.1
    · rw [if_pos e]
      have h1 := h x List.mem_cons_self
      unfold entB at h1
      simp only [Bool.and_eq_true, Bool.or_eq_true, Bool.not_eq_true', decide_eq_true_eq, decide_eq_false_iff_not] at h1
      rcases h1.2 with h2 | h2
      · exact absurd (by rw [← e]; exact hw) h2
      · rw [ev_const x.2 fun t ht => by simpa using List.all_eq_true.1 h2 t ht]
    · rw [if_neg e]
      simp
structure ClIs (n i j : Nat) (ys : List Int) (e : Cls) (k : Nat) : Prop where
  lt : k < fact n
  fst : e.1 = trimL (pmA n k)
  len : lenP (pmA n k) ≤ lenP (pmA n i) + lenP (pmA n j)
  b1 : blwB (pmA n i) (pmA n k) = true
  b2 : blwB (pmA n j) (pmA n k) = true
  nn : risY n ys → 0 ≤ e.2
theorem cl_is (hy : YOk n ys) {i j : Nat} (hi : i < fact n) (hj : j < fact n) {e : Cls} (he : e ∈ sumC n (cEx n ys (cR n i j))) : ∃ k, ClIs n i j ys e k := by
  obtain ⟨k, hk, rfl, hne⟩ := sumC_mem hy he
  have hents := fun x (hx : x ∈ cR n i j) => ents_at hy.one hy.four hi hj hx
  obtain ⟨x, hx, hxe⟩ : ∃ x ∈ cR n i j, pmA n k = pmA n x.1 := by
    by_cases hm : ∃ x ∈ cR n i j, pmA n k = pmA n x.1
    · exact hm
    · exact absurd (cEx_none fun x hx e => hm ⟨x, hx, e⟩) hne
  have h1 := hents x hx
  unfold entB at h1
  simp only [Bool.and_eq_true, decide_eq_true_eq] at h1
  rw [← hxe] at h1
  exact ⟨k, hk, rfl, h1.1.1.1.1.2, h1.1.1.1.2, h1.1.1.2, fun hr => cEx_nn hr _ _ fun y hy' => by
    have h2 := hents y hy'
    unfold entB at h2
    simp only [Bool.and_eq_true] at h2
    exact h2.1.2⟩
theorem top_is (hy : YOk n ys) {i j : Nat} (hi : i < fact n) (hj : j < fact n) :
    (sumC n (cEx n ys (cR n i j))).filter (fun e => decide (lenP (growL e.1 n) = lenP (pmA n i) + lenP (pmA n j))) = topT n i j := by
  have OI := ordIs hy.one hy.four
  have hents := fun x (hx : x ∈ cR n i j) => ents_at hy.one hy.four hi hj hx
  unfold topT
  refine srtC_eq ?_ ?_ ?_
  · rw [List.map_map]
    have hs : ((List.range (fact n)).map fun x => trimL (pmA n x)).Nodup := trim_nodup hy.one hy.four
    exact List.Nodup.sublist (List.Sublist.map _ List.filter_sublist) hs
  · have h1 : (sumC n (cEx n ys (cR n i j))).Perm (((ordL n).filter fun x => !decide (cEx n ys (cR n i j) (pmA n x) = 0)).map fun x => (trimL (pmA n x), cEx n ys (cR n i j) (pmA n x))) := srtC_perm _
    have h2 := (h1.trans ((OI.perm.filter _).map _)).filter (fun e : Cls => decide (lenP (growL e.1 n) = lenP (pmA n i) + lenP (pmA n j)))
    refine h2.trans ?_
    rw [List.filter_map, List.filter_filter]
    have e1 : (List.range (fact n)).filter (fun x => ((fun e : Cls => decide (lenP (growL e.1 n) = lenP (pmA n i) + lenP (pmA n j))) ∘ fun x => (trimL (pmA n x), cEx n ys (cR n i j) (pmA n x))) x && !decide (cEx n ys (cR n i j) (pmA n x) = 0)) =
        (List.range (fact n)).filter fun k => decide (lenP (pmA n k) = lenP (pmA n i) + lenP (pmA n j)) && !decide (kEx n (cR n i j) (pmA n k) = 0) := List.filter_congr fun x hx => by
      have hx := List.mem_range.1 hx
      show (decide (lenP (growL (trimL (pmA n x)) n) = lenP (pmA n i) + lenP (pmA n j)) && _) = _
      rw [(gt_at hy.one hy.four hx).1]
      by_cases e : lenP (pmA n x) = lenP (pmA n i) + lenP (pmA n j)
      · rw [cEx_const e _ hents]
      · rw [decide_eq_false e]
        rfl
    rw [e1]
    refine List.Perm.of_eq (List.map_congr_left fun x hx => ?_)
    have h3 := (List.mem_filter.1 hx).2
    rw [Bool.and_eq_true, decide_eq_true_eq] at h3
    rw [cEx_const h3.1 _ hents]
  · have hasc : AscC (sumC n (cEx n ys (cR n i j))) := by
      unfold sumC
      refine srtC_asc ?_
      rw [List.map_map]
      have hs : ((ordL n).map fun x => trimL (pmA n x)).Nodup := (List.Perm.nodup_iff (OI.perm.map _)).2 (trim_nodup hy.one hy.four)
      exact List.Nodup.sublist (List.Sublist.map _ List.filter_sublist) hs
    exact (List.Pairwise.filter _ hasc).imp fun h => ltB_asym h
end

end Go.Proofs.YtgebjjpcgakjgaaGreat

namespace Go.Proofs.YtgebjjpcgakjgaaGreat
set_option linter.all false
open Go.RowKit

theorem cur_new {w : World} {p : Option Addr} {n cap : Nat} (x : Int) (h : Byts w (.slice p n cap) n) : Cur (w.alloc (.cells #[.slice p n cap, .int .i64 0, .int .i64 x] 56)) w.heap.size := by
  have h' := h
  obtain ⟨f, p', cap', e, _, hx⟩ := h'
  injection e with e1 _ e3
  subst e1 e3
  refine ⟨p, n, cap, 0, x, heap_alloc_top _ _, Nat.zero_le _, h.below (below_alloc _ _), fun h0 a ha => ?_⟩
  obtain ⟨b, off, e, hc⟩ := hx h0
  rw [e] at ha
  injection ha with ha
  subst ha
  have := World.block_lt_of_cell? _ _ (hc 0 h0)
  dsimp only at this ⊢
  omega

set_option maxRecDepth 100000 in
set_option maxHeartbeats 2000000 in
theorem l1New_any (v : Value) (n : Nat) (w : World) (h : Byts w v n) :
    Calls Tryz.prog 12 #[v] w fun e w' => e = .returned (.pointer (some ⟨w.heap.size, 0, none⟩)) ∧ Cur w' w.heap.size ∧ Below w.heap.size w w' := by
  have Hh := Lib.hid h
  obtain ⟨f, p, cap, rfl, ⟨hx1, hx2⟩, hxc⟩ := h
  unfold maxLen at hx2
  have Hxc := Lib.hid hxc
  clear hxc
  go_enter Tryz.func12, Tryz.ntmps12
  go_wp2_with fail
  go_loopg [3, 4] n (fun g s3 s4 wr => ∃ (k : Nat) (x : Int), k ≤ n ∧ g = n - k ∧ s3 = .int .i64 x ∧ s4 = .int .i64 k ∧ wr = w)
  case atStart => exact ⟨0, _, Nat.zero_le _, rfl, rfl, rfl, rfl⟩
  case round =>
    obtain ⟨k, x, hk, rfl, rfl, rfl, rfl⟩ := hrel
    by_cases hlt : k < n
    · by_cases h4 : k < 4000
      · obtain ⟨b, off, rfl, hc⟩ := Hxc.out (by omega)
        have c1 := hc k hlt
        have i1 : (k : Int) < (n : Int) := by omega
        have i2 : (k : Int) < 4000 := by omega
        clear hc
        go_wp2_with fail
        go_roundg (n - (k + 1))
        case measure => omega
        case rel => exact ⟨k + 1, _, by omega, rfl, rfl, by go_num, rfl⟩
      · have i1 : (k : Int) < (n : Int) := by omega
        have i2 : ¬ (k : Int) < 4000 := by omega
        go_wp2_with fail
        go_ret
        exact ⟨rfl, cur_new x Hh.out, below_alloc _ _⟩
    · have i1 : ¬ (k : Int) < (n : Int) := by omega
      go_wp2_with fail
      go_ret
      exact ⟨rfl, cur_new x Hh.out, below_alloc _ _⟩

end Go.Proofs.YtgebjjpcgakjgaaGreat

namespace Go.Proofs.YtgebjjpcgakjgaaGreat
set_option linter.all false
open Go.RowKit

/-- all codes of m places -/
def codes : Nat → List (List Nat)
  | 0 => [[]]
  | m + 1 => (List.range (m + 1)).flatMap fun x => (codes m).map (x :: ·)
theorem mem_codes : ∀ (m : Nat) (c : List Nat), c.length = m → (∀ j, j < m → c.getD j 0 < m - j) → c ∈ codes m
  | 0, c, hl, _ => by
    obtain rfl := List.eq_nil_of_length_eq_zero hl
    simp [codes]
  | m + 1, [], hl, _ => by simp at hl
  | m + 1, x :: c, hl, h => by
    have h0 := h 0 (by omega)
    have ih := mem_codes m c (by simpa using hl) fun j hj => by
      have := h (j + 1) (by omega)
      simp at this ⊢
      omega
    unfold codes
    refine List.mem_flatMap.2 ⟨x, by simpa using h0, List.mem_map.2 ⟨c, ih, rfl⟩⟩
theorem decL_ok {n : Nat} (h1 : 1 ≤ n) (h5 : n ≤ 5) (c : List Nat) (hl : c.length = n) (h : ∀ j, j < n → c.getD j 0 < n - j) : permOk (decL n c) = true ∧ (decL n c).length = n := by
  have hc := mem_codes n c hl h
  have key : ∀ c ∈ codes n, permOk (decL n c) = true ∧ (decL n c).length = n := by
    have : n = 1 ∨ n = 2 ∨ n = 3 ∨ n = 4 ∨ n = 5 := by omega
    rcases this with rfl | rfl | rfl | rfl | rfl <;> decide +kernel
  exact key c hc

set_option maxRecDepth 100000 in
set_option maxHeartbeats 2000000 in
/-- any permutation of n -/
theorem dPerm_any (k n : Nat) (w : World) (h : Cur w k) (h1 : 1 ≤ n) (h5 : n ≤ 5) :
    Calls Tryz.prog 17 #[.pointer (some ⟨k, 0, none⟩), .int .i64 (n : Int)] w fun e w' =>
      ∃ (u : Value) (xs : List Int), e = .returned u ∧ OwnI 3 w' w.heap.size w'.heap.size u xs ∧ permOk xs = true ∧ xs.length = n ∧ Cur w' k ∧ Frm k (k + 1) w w' := by
  have Hc := Lib.hid h
  have hk := h.lt
  clear h
  go_enter Tryz.func17, Tryz.ntmps17
  go_wp2_with fail
  go_loopg [5, 6] n (fun g s5 s6 wr => ∃ (i : Nat) (cs : List Nat), i ≤ n ∧ g = n - i ∧ s6 = .int .i64 i ∧ cs.length = i ∧ Hid (∀ j, j < i → cs.getD j 0 < n - j) ∧ Hid (OwnI 3 wr w.heap.size wr.heap.size s5 (cs.map Int.ofNat)) ∧ Hid (Cur wr k) ∧ Hid (Frm k (k + 1) w wr))
  case atStart =>
    refine ⟨0, [], Nat.zero_le _, rfl, rfl, rfl, fun j hj => absurd hj (Nat.not_lt_zero _), ?_, Hc.out.below (below_alloc w _), Frm.of_below (below_alloc w _) _ _⟩
    exact OwnF.ints ((OwnF.made0 w 3 (iv [])).mono (Nat.le_refl _) (by simp))
  case round =>
    obtain ⟨i, cs, hi, rfl, rfl, hcl, hcd, ho, hcu, hf⟩ := hrel
    have hsr := hf.out.size
    by_cases hlt : i < n
    · have hlt2 : (i : Int) < (n : Int) := by omega
      have hsub : (n : Int) - (i : Int) = ((n - i : Nat) : Int) := by omega
      have Hsub := Lib.hid hsub
      obtain ⟨p5, k5, rfl, _, _⟩ := ho.out.shape
      have hofn := ho.out.fn
      have hml : (cs.map Int.ofNat).length = i := by rw [List.length_map, hcl]
      rw [hml] at hofn ⊢
      have Ho := Lib.hid hofn
      have Hml := Lib.hid hml
      have Hcl := Lib.hid hcl
      have Hcd := Lib.hid hcd.out
      have Hcu := Lib.hid hcu.out
      have Hf := Lib.hid hf.out
      have Hb1 := Lib.hid (show i + 1 ≤ maxLen by unfold maxLen; omega)
      have Hb2 := Lib.hid (show (i + 1) * 8 ≤ 140737488355328 by omega)
      clear hsub ho hofn hml hcl hcd hcu hf
      go_wp2_with fail
      rw [Hsub.out]
      refine (l1Below_any k (n - i) _ Hcu.out (by omega) (by omega)).mono ?_
      rintro e w1 ⟨x, rfl, hx, hc1, hf1⟩
      have hs1 := hf1.size
      have Ho1 := Lib.hid (Ho.out.frm hf1 (Or.inr (by omega)))
      have Hc1 := Lib.hid hc1
      have Hf1 := Lib.hid (Hf.out.trans hf1)
      clear hc1 hf1
      go_wp2_with (at_builtin; go_must (refine wpList_append_F rfl (.tmp 13) (.tmp 19) 24 rfl 3 (.int .i64 0) 8 Tryz.underlying24 info_int rfl w.heap.size wr.heap.size _ i (iv (cs.map Int.ofNat)) rfl (Ho1.out.below (below_alloc w1 _)) (by rw [size_alloc]; omega) (by rw [size_alloc]; omega) _ 1 _ rfl (rd_one _ _ _ rfl) (fun j _ => rfl) Hb1.out Hb2.out ?_; intro v2 w2 ho2 hg2))
      go_roundg (n - (i + 1))
      case measure => omega
      case rel =>
        have hbx : Below w.heap.size w1 w2 := ((below_alloc w1 _).mono (by omega)).trans (grownBy_below hg2 Ho1.out.blocks (Nat.le_refl _) (by rw [size_alloc]; omega))
        refine ⟨i + 1, cs ++ [x], by omega, rfl, by go_num, by rw [List.length_append, Hcl.out]; rfl, fun j hj => ?_, ?_, Hc1.out.keepB hbx hk, Hf1.out.thenB hbx (Nat.le_refl _)⟩
        · by_cases e : j < i
          · have := Hcd.out j e
            rwa [List.getD_eq_getElem?_getD, List.getElem?_append_left (by rw [Hcl.out]; exact e), ← List.getD_eq_getElem?_getD]
          · obtain rfl : j = i := by omega
            rw [List.getD_eq_getElem?_getD, List.getElem?_append_right (by rw [Hcl.out]; exact Nat.le_refl _), Hcl.out]
            simpa using hx
        · rw [List.map_append]
          exact OwnI.snoc1 (by rw [Hml.out]; exact ho2)
    · obtain rfl : i = n := by omega
      have hlt2 : ¬ (i : Int) < (i : Int) := by omega
      obtain ⟨p5, k5, rfl, _, _⟩ := ho.out.shape
      have hoi := ho.out.ints
      have hml : (cs.map Int.ofNat).length = i := by rw [List.length_map, hcl]
      rw [hml] at hoi ⊢
      have Ho := Lib.hid hoi
      have Hcl := Lib.hid hcl
      have Hcd := Lib.hid hcd.out
      have Hcu := Lib.hid hcu.out
      have Hf := Lib.hid hf.out
      clear ho hcl hcd hcu hf hoi hml
      go_wp2_with fail
      refine (specDecode_any _ cs _ Ho.out (by rw [Hcl.out]; omega) (fun x hx => ?_)).mono ?_
      · obtain ⟨j, hj, rfl⟩ := List.mem_iff_getElem.1 hx
        have := Hcd.out j (by rw [← Hcl.out]; exact hj)
        rw [List.getD_eq_getElem?_getD, List.getElem?_eq_getElem hj] at this
        simp at this
        omega
      · rintro e w1 ⟨u, rfl, ho1, hb1⟩
        obtain ⟨g1, g2⟩ := decL_ok h1 h5 cs Hcl.out Hcd.out
        rw [Hcl.out] at ho1
        have G1 := Lib.hid g1
        have G2 := Lib.hid g2
        have Ho1 := Lib.hid ho1
        have Hb1 := Lib.hid hb1
        clear g1 g2 ho1 hb1
        go_wp2_with fail
        go_ret
        exact ⟨u, _, rfl, Ho1.out.mono hsr (Nat.le_refl _), G1.out, G2.out, Hcu.out.below Hb1.out, Hf.out.thenB Hb1.out hsr⟩

end Go.Proofs.YtgebjjpcgakjgaaGreat

namespace Go.Proofs.YtgebjjpcgakjgaaGreat
set_option linter.all false
open Go.RowKit

/-- the next number from -9 to 9 -/
def cyc (x : Int) : Int := (x + 10) % 19 - 9
def cycN : Nat → Int → Int
  | 0, x => x
  | j + 1, x => cycN j (cyc x)
theorem cyc_rng (x : Int) : -9 ≤ cyc x ∧ cyc x ≤ 9 := by unfold cyc; omega
theorem cyc_free {x : Int} (hx : -9 ≤ x ∧ x ≤ 9) : ∀ {out : List Int}, out.length ≤ 3 → ∃ j, j < 4 ∧ cycN j x ∉ out := by
  intro out hl
  have d01 : cycN 0 x ≠ cycN 1 x := by simp only [cycN, cyc]; omega
  have d02 : cycN 0 x ≠ cycN 2 x := by simp only [cycN, cyc]; omega
  have d03 : cycN 0 x ≠ cycN 3 x := by simp only [cycN, cyc]; omega
  have d12 : cycN 1 x ≠ cycN 2 x := by simp only [cycN, cyc]; omega
  have d13 : cycN 1 x ≠ cycN 3 x := by simp only [cycN, cyc]; omega
  have d23 : cycN 2 x ≠ cycN 3 x := by simp only [cycN, cyc]; omega
  apply Classical.byContradiction
  intro h
  have a : ∀ j, j < 4 → cycN j x ∈ out := fun j hj => Classical.byContradiction fun e => h ⟨j, hj, e⟩
  have a0 := a 0 (by omega)
  have a1 := a 1 (by omega)
  have a2 := a 2 (by omega)
  have a3 := a 3 (by omega)
  clear a h
  generalize cycN 0 x = c0 at *
  generalize cycN 1 x = c1 at *
  generalize cycN 2 x = c2 at *
  generalize cycN 3 x = c3 at *
  match out, hl with
  | [], _ => cases a0
  | [a], _ => simp at a0 a1; omega
  | [a, b], _ => simp at a0 a1 a2; omega
  | [a, b, c], _ => simp at a0 a1 a2 a3; omega

set_option maxRecDepth 100000 in
set_option maxHeartbeats 4000000 in
/-- n different numbers from -9 to 9 -/
theorem dApart_any (k n : Nat) (w : World) (h : Cur w k) (h4 : n ≤ 4) :
    Calls Tryz.prog 14 #[.pointer (some ⟨k, 0, none⟩), .int .i64 (n : Int)] w fun e w' =>
      ∃ (u : Value) (ys : List Int), e = .returned u ∧ OwnI 3 w' w.heap.size w'.heap.size u ys ∧ ys.length = n ∧ ys.Nodup ∧ (∀ x ∈ ys, -9 ≤ x ∧ x ≤ 9) ∧ Cur w' k ∧ Frm k (k + 1) w w' := by
  have Hc := Lib.hid h
  have hk := h.lt
  clear h
  go_enter Tryz.func14, Tryz.ntmps14
  go_wp2_with fail
  go_loopg [5] n (fun g s5 wr => ∃ (i : Nat) (cs : List Int), i ≤ n ∧ g = n - i ∧ Hid (cs.length = i) ∧ Hid (cs.Nodup) ∧ Hid (∀ x ∈ cs, -9 ≤ x ∧ x ≤ 9) ∧ Hid (OwnI 3 wr w.heap.size wr.heap.size s5 cs) ∧ Hid (Cur wr k) ∧ Hid (Frm k (k + 1) w wr))
  case atStart =>
    refine ⟨0, [], Nat.zero_le _, rfl, Lib.hid rfl, Lib.hid List.nodup_nil, Lib.hid (by simp), ?_, Hc.out.below (below_alloc w _), Frm.of_below (below_alloc w _) _ _⟩
    exact OwnF.ints ((OwnF.made0 w 3 (iv [])).mono (Nat.le_refl _) (by simp))
  case round =>
    obtain ⟨i, cs, hi, rfl, hcl, hnd, hrg, ho, hcu, hf⟩ := hrel
    obtain ⟨wx, rfl⟩ : ∃ x : World, x = wr := ⟨_, rfl⟩
    have hsr := hf.out.size
    obtain ⟨p5, k5, rfl, hk5, hk55⟩ := ho.out.shape
    have hofn := ho.out.fn
    rw [hcl.out] at hofn hk5 ⊢
    unfold maxLen at hk55
    have Ho := Lib.hid ho.out
    have Hofn := Lib.hid hofn
    have Hcl := Lib.hid hcl.out
    have Hnd := Lib.hid hnd.out
    have Hrg := Lib.hid hrg.out
    have Hcu := Lib.hid hcu.out
    have Hf := Lib.hid hf.out
    clear hcl hnd hrg ho hcu hf hofn
    by_cases hlt : i < n
    · have hlt2 : (i : Int) < (n : Int) := by omega
      have Hb1 := Lib.hid (show i + 1 ≤ maxLen by unfold maxLen; omega)
      have Hb2 := Lib.hid (show (i + 1) * 8 ≤ 140737488355328 by omega)
      go_wp2_with fail
      refine (l1Below_any k 19 _ Hcu.out (by omega) (by omega)).mono ?_
      rintro e w1 ⟨x0, rfl, hx0, hc1, hf1⟩
      have hs1 := hf1.size
      have Ho1 := Lib.hid (Ho.out.frm hf1 (Or.inr (by omega)))
      have Hofn1 := Lib.hid (Hofn.out.frm hf1 (Or.inr (by omega)))
      have Hc1 := Lib.hid hc1
      have Hf1 := Lib.hid (Hf.out.trans hf1)
      clear hc1 hf1
      rw [Hcl.out] at Ho1
      go_wp2_with fail
      go_loopg [6] 4 (fun g s6 wr => ∃ x : Int, s6 = .int .i64 x ∧ -9 ≤ x ∧ x ≤ 9 ∧ Hid (∃ j, j < g ∧ cycN j x ∉ cs) ∧ Hid (Qt w1 wr))
      case atStart => exact ⟨(x0 : Int) - 9, by go_num, by omega, by omega, Lib.hid (cyc_free ⟨by omega, by omega⟩ (by rw [Hcl.out]; omega)), Lib.hid (Qt.refl _)⟩
      case round =>
        obtain ⟨x, rfl, hx1, hx2, hfr, hq⟩ := hrel
        obtain ⟨wy, rfl⟩ : ∃ x : World, x = wr := ⟨_, rfl⟩
        have Hfr := Lib.hid hfr.out
        have Hq := Lib.hid hq.out
        obtain ⟨bb, hbb⟩ : ∃ bb, bb = decide (x ∈ cs) := ⟨_, rfl⟩
        have Hbb := Lib.hid hbb
        clear hfr hq hbb
        go_wp2_with fail
        refine (l1Has_any _ cs x _ (Ho1.out.ints.qt Hq.out)).mono ?_
        rintro e w2 ⟨rfl, hq2⟩
        rw [← Hbb.out]
        have Hq2 := Lib.hid (Hq.out.trans hq2)
        clear hq2
        cases bb with
        | true =>
          have hin : x ∈ cs := of_decide_eq_true Hbb.out.symm
          obtain ⟨j, hj, hjn⟩ := Hfr.out
          have hj0 : ∃ i, j = i + 1 := by
            cases j with
            | zero => exact absurd hin hjn
            | succ i => exact ⟨i, rfl⟩
          obtain ⟨j', rfl⟩ := hj0
          have hcr := cyc_rng x
          have Hc := Lib.hid (show ∃ j, j < gk - 1 ∧ cycN j (cyc x) ∉ cs from ⟨j', by omega, hjn⟩)
          have hcy : cyc x = (x + 10) % 19 - 9 := rfl
          have hx10 : 0 ≤ x + 10 := by omega
          clear hin hjn
          go_wp2_with fail
          go_roundg (gk - 1)
          case measure => omega
          case rel =>
            exact ⟨cyc x, by rw [hcy], hcr.1, hcr.2, Hc, Hq2⟩
        | false =>
          have Hnin := Lib.hid (show x ∉ cs from of_decide_eq_false Hbb.out.symm)
          clear Hbb
          have Hofn2 := Lib.hid (Hofn1.out.below (Hq2.out.below _))
          have Hsq := Lib.hid Hq2.out.size
          have hsq1 : w.heap.size ≤ w2.heap.size := by rw [Hsq.out]; omega
          have hsq2 : wx.heap.size ≤ w2.heap.size := by rw [Hsq.out]; omega
          go_wp2_with (at_builtin; go_must (refine wpList_append_F rfl (.tmp 22) (.tmp 24) 24 rfl 3 (.int .i64 0) 8 Tryz.underlying24 info_int rfl w.heap.size wx.heap.size _ i (iv cs) rfl (Hofn2.out.below (below_alloc w2 _)) (by rw [size_alloc]; omega) (by rw [size_alloc]; omega) _ 1 _ rfl (rd_one _ _ _ rfl) (fun j _ => rfl) Hb1.out Hb2.out ?_; intro v3 w3 ho3 hg3))
          go_roundg (n - (i + 1))
          case measure => omega
          case rel =>
            have hbx : Below w.heap.size w2 w3 := ((below_alloc w2 _).mono (by omega)).trans (grownBy_below hg3 Hofn2.out.blocks (Nat.le_refl _) (by rw [size_alloc]; omega))
            have hb1 : Below w.heap.size w1 w3 := (Hq2.out.below _).trans hbx
            refine ⟨i + 1, cs ++ [x], by omega, rfl, Lib.hid (by rw [List.length_append, Hcl.out]; rfl), Lib.hid ?_, Lib.hid ?_, Lib.hid ?_, Lib.hid (Hc1.out.keepB hb1 hk), Lib.hid (Hf1.out.thenB hb1 (Nat.le_refl _))⟩
            · rw [List.nodup_append]
              exact ⟨Hnd.out, by simp, fun a ha b hb e => by
                rw [List.mem_singleton] at hb
                exact Hnin.out (by rw [← hb, ← e]; exact ha)⟩
            · intro z hz
              rcases List.mem_append.1 hz with hz | hz
              · exact Hrg.out z hz
              · rw [List.mem_singleton] at hz; omega
            · exact OwnI.snoc1 (by rw [Hcl.out]; exact ho3)
    · obtain rfl : i = n := by omega
      have hlt2 : ¬ (i : Int) < (i : Int) := by omega
      go_wp2_with fail
      go_ret
      first | exact ⟨_, rfl, cs, by rw [Hcl.out] at Ho; exact Ho.out, Hcl.out, Hnd.out, Hrg.out, Hcu.out, Hf.out⟩ | exact ⟨_, cs, rfl, by rw [Hcl.out] at Ho; exact Ho.out, Hcl.out, Hnd.out, Hrg.out, Hcu.out, Hf.out⟩

theorem below_of_drew' {w w' : World} (h : Below w.drew.heap.size w.drew w') : Below w.heap.size w w' := ⟨h.os, h.tape, h.output, h.size, h.block⟩
theorem own_tk {T : TypeId} {w w0 : World} {hi n : Nat} {v : Value} {xs : List Int} (h : OwnI T w w0.drew.heap.size hi v xs) (hl : xs.length = n) : OwnF w w0.heap.size hi T v n (iv xs) := by
  subst hl
  exact h.fn
theorem rise_own {T : TypeId} {w : World} {lo hi t l n : Nat} {v : Value} {zs : List Int} {y : Int} {F : Nat → Value} (h : OwnF w lo hi T v (t + 1 + l) (fun j => if j < t + 1 then F j else iv (zs.drop t) (j - (t + 1)))) (ht : (zs.take t).length = t) (hl : (zs.drop t).length = l) (hn : t + 1 + l = n)
    (hF : F = fun j => if j < t then iv (zs.take t) j else .int .i64 y := by rfl) : ∃ g k, v = .slice (some ⟨g, 0, none⟩) n k ∧ OwnI T w lo hi (.slice (some ⟨g, 0, none⟩) n k) (zs.take t ++ y :: zs.drop t) := by
  subst hF
  have hlen : (zs.take t ++ y :: zs.drop t).length = t + 1 + l := by rw [List.length_append, List.length_cons, ht, hl]; omega
  have ho : OwnI T w lo hi v (zs.take t ++ y :: zs.drop t) := by
    refine OwnF.ints ?_
    rw [hlen]
    refine h.congr fun j hj => ?_
    have e : ∀ a b : Value, a = b → a = b := fun _ _ h => h
    unfold iv
    by_cases h1 : j < t + 1
    · rw [if_pos h1]
      dsimp only
      by_cases h2 : j < t
      · rw [if_pos h2]
        simp only [List.getD_eq_getElem?_getD]
        rw [List.getElem?_append_left (by rw [ht]; exact h2)]
      · rw [if_neg h2]
        have h3 : j = t := by omega
        simp only [List.getD_eq_getElem?_getD]
        rw [List.getElem?_append_right (by rw [ht]; omega), ht, h3, Nat.sub_self]
        rfl
    · rw [if_neg h1]
      simp only [List.getD_eq_getElem?_getD]
      rw [List.getElem?_append_right (by rw [ht]; omega), ht, show j - t = (j - (t + 1)) + 1 by omega, List.getElem?_cons_succ]
  obtain ⟨p, cap, rfl, _, _, hx⟩ := ho.fn.shape
  obtain ⟨g, rfl, _⟩ := hx (by omega)
  rw [hlen, hn] at ho
  rw [hlen, hn]
  exact ⟨g, cap, rfl, ho⟩
theorem rise_perm {zs ys : List Int} {i t : Nat} {y : Int} (h : zs.Perm (ys.take i)) (hi : i < ys.length) (hy : y = ys.getD i 0) : (zs.take t ++ y :: zs.drop t).Perm (ys.take (i + 1)) := by
  have e : ys.take (i + 1) = ys.take i ++ [y] := by rw [hy, getD_lt hi, List.take_append_getElem]
  rw [e]
  refine List.perm_middle.trans ?_
  rw [List.take_append_drop]
  refine (List.Perm.cons y h).trans ?_
  exact (List.perm_append_singleton y _).symm
theorem own_tk2 {T : TypeId} {w w0 : World} {o : Obj} {hi n : Nat} {v : Value} {xs : List Int} (h : OwnI T w (w0.alloc o).drew.heap.size hi v xs) (hl : xs.length = n) : OwnF w w0.heap.size hi T v n (iv xs) := by
  subst hl
  exact h.fn.mono (by show w0.heap.size ≤ (w0.alloc o).heap.size; rw [size_alloc]; omega) (Nat.le_refl _)
theorem le_alloc2 {w W : World} {B : Nat} (o : Obj) (h : B ≤ w.heap.size) (hb : Below w.heap.size w W) : B ≤ (W.alloc o).heap.size := by
  rw [size_alloc]; have := hb.size; omega
theorem keep1 {wr W W' : World} {a : Addr} {v : Value} (hb : Below W.heap.size W W') (h : W.cell? a = some v ∧ Below wr.heap.size wr W) : W'.cell? a = some v ∧ Below wr.heap.size wr W' :=
  ⟨cell_below hb h.1, below_trans h.2 hb⟩
theorem keep1B {wr W W' : World} {a : Addr} {v : Value} {B : Nat} (hb : Below B W W') (ha : a.block < B) (hw : wr.heap.size ≤ B) (h : W.cell? a = some v ∧ Below wr.heap.size wr W) : W'.cell? a = some v ∧ Below wr.heap.size wr W' :=
  ⟨by rw [hb.cell ha]; exact h.1, h.2.trans (hb.mono hw)⟩
theorem ints_drop3 {w : World} {b n cap c : Nat} {xs : List Int} (h : Ints w (.slice (some ⟨b, 0, none⟩) n cap) xs) (hl : xs.length = n) (hc : c ≤ n) (h1 : n ≤ cap) (h2 : cap ≤ 2 ^ 63 - 1) : Ints w (.slice (if cap = c then some ⟨b, 0, none⟩ else some ⟨b, c, none⟩) (n - c) (cap - c)) (xs.drop c) := by
  by_cases e : cap = c
  · have e2 : n - c = 0 := by omega
    have e3 : xs.drop c = [] := List.drop_eq_nil_iff.2 (by omega)
    rw [if_pos e, e2, e3]
    exact ⟨_, _, rfl, ⟨Nat.zero_le _, by unfold maxLen; omega⟩, fun h => absurd h (Nat.lt_irrefl _)⟩
  · rw [if_neg e]
    unfold Ints at h ⊢
    rw [hl] at h
    have := Rd.part h c (n - c) (cap - c) (by omega) (by omega) (by unfold maxLen; omega)
    rw [Nat.zero_add] at this
    rw [List.length_drop, hl]
    exact this.congr fun j hj => by simp [iv, List.getD_eq_getElem?_getD]
theorem ints_takeP2' {w : World} {p : Option Addr} {n t cap : Nat} {xs : List Int} (h : Ints w (.slice p n cap) xs) (hl : xs.length = n) (ht : t ≤ n) : Ints w (.slice p t cap) (xs.take t) := by
  subst hl
  exact h.take t ht
theorem ints_drop2 {w : World} {b n cap c : Nat} {xs : List Int} (h : Ints w (.slice (some ⟨b, 0, none⟩) n cap) xs) (hl : xs.length = n) (hc : c ≤ n) (h1 : n ≤ cap) (h2 : cap ≤ 2 ^ 63 - 1) : Ints w (.slice (some ⟨b, c, none⟩) (n - c) (cap - c)) (xs.drop c) := by
  unfold Ints at h ⊢
  rw [hl] at h
  have := Rd.part h c (n - c) (cap - c) (by omega) (by omega) (by unfold maxLen; omega)
  rw [Nat.zero_add] at this
  rw [List.length_drop, hl]
  exact this.congr fun j hj => by simp [iv, List.getD_eq_getElem?_getD]

set_option maxRecDepth 100000 in
set_option maxHeartbeats 4000000 in
/-- the same numbers, ascending -/
theorem dRise_any (v : Value) (ys : List Int) (w : World) (h : Ints w v ys) (h4 : ys.length ≤ 4) :
    Calls Tryz.prog 16 #[v] w fun e w' => ∃ (u : Value) (zs : List Int), e = .returned u ∧ OwnI 3 w' w.heap.size w'.heap.size u zs ∧ zs.Perm ys ∧ Below w.heap.size w w' := by
  have Hh := Lib.hid h
  obtain ⟨pv, cv, rfl, ⟨hv1, hv2⟩, hvc⟩ := h
  unfold maxLen at hv2
  have Hvc := Lib.hid hvc
  clear hvc
  go_enter Tryz.func16, Tryz.ntmps16
  go_wp2_with fail
  go_loopg [3, 4] ys.length (fun g s3 s4 wr => ∃ (i : Nat) (zs : List Int) (g0 k3 : Nat), i ≤ ys.length ∧ g = ys.length - i ∧ s4 = .int .i64 (i : Int) ∧ s3 = .slice (some ⟨g0, 0, none⟩) i k3 ∧ Hid (zs.Perm (ys.take i)) ∧ Hid (OwnI 3 wr w.heap.size wr.heap.size (.slice (some ⟨g0, 0, none⟩) i k3) zs) ∧ Hid (Below w.heap.size w wr))
  case atStart =>
    refine ⟨0, [], w.heap.size, 0, Nat.zero_le _, rfl, rfl, rfl, Lib.hid (by simp), ?_, Lib.hid (below_alloc w _)⟩
    exact OwnF.ints ((OwnF.made0 w 3 (iv [])).mono (Nat.le_refl _) (by simp))
  case round =>
    obtain ⟨i, zs, g0, k3, hi, rfl, rfl, rfl, hpm, ho, hb⟩ := hrel
    obtain ⟨wx, rfl⟩ : ∃ x : World, x = wr := ⟨_, rfl⟩
    have hsr := hb.out.size
    have hm : i = zs.length := by rw [hpm.out.length_eq, List.length_take]; omega
    have Hm := Lib.hid hm
    obtain ⟨_, _, e3, hk3, hk33⟩ := ho.out.shape
    injection e3 with e31 e32 e33
    subst e33
    rw [← hm] at hk3
    unfold maxLen at hk33
    have Ho := Lib.hid ho.out
    have Hpm := Lib.hid hpm.out
    have Hb := Lib.hid hb.out
    clear ho hpm hb hm e31 e32
    by_cases hlt : i < ys.length
    · have hlt2 : (i : Int) < (ys.length : Int) := by omega
      obtain ⟨bv, ov, rfl, hc⟩ := Hvc.out (by omega)
      obtain ⟨y, hy⟩ : ∃ y, y = ys.getD i 0 := ⟨_, rfl⟩
      have c1 := cell_below Hb.out (hc i hlt)
      unfold iv at c1
      rw [← hy] at c1
      have Hy := Lib.hid hy
      clear hc hy
      go_wp2_with fail
      go_loopg [5] (i + 1) (fun g s5 wr => ∃ t : Nat, t ≤ i ∧ g = t + 1 ∧ s5 = .int .i64 (t : Int) ∧ Qt wx wr)
      case atStart => exact ⟨i, Nat.le_refl _, rfl, rfl, Qt.refl _⟩
      case round =>
        obtain ⟨t, ht, rfl, rfl, hq⟩ := hrel
        obtain ⟨wy, rfl⟩ : ∃ x : World, x = wr := ⟨_, rfl⟩
        have Hq := Lib.hid hq
        have d1 := hq.cell c1
        clear hq
        have hti : (t : Int) ≤ (i : Int) := by omega
        by_cases ht0 : t = 0
        · subst ht0
          go_wp2_with fail
          go_quiet (fail)
          have Hq1 := Lib.hid (Hq.out.drewN nq)
          generalize wy.drewN nq = wz at *
          have d2 := Hq1.out.cell c1
          clear d1 c1
          have HO := Lib.hid (Ho.out.below (Hq1.out.below _))
          have hsz := Hq1.out.size
          have hw0 : w.heap.size ≤ wz.heap.size := by omega
          have Hsz := Lib.hid hsz
          have hbz : Below wz.heap.size wz wz.drew := (Below.refl _ _).drew
          have hbz2 : Below wz.heap.size wz (wz.alloc (.cells #[.int .i64 y] 3)).drew := (below_alloc wz _).drew
          have hrd2 := Lib.hid (show Rd (wz.alloc (.cells #[.int .i64 y] 3)).drew (.slice (some ⟨wz.heap.size, 0, none⟩) 1 1) 1 (fun _ => .int .i64 y) from rd_one wz _ _ rfl)
          have hbv : bv < wz.heap.size := World.block_lt_of_cell? _ _ d2
          clear hsz
          have hI1 := Lib.hid (ints_takeP2' (t := 0) HO.out.ints Hm.out.symm (Nat.zero_le _))
          have HR2 := Lib.hid (show Rd wz (.slice (some ⟨g0, 0, none⟩) i k3) i (iv (zs.drop 0)) from by
            have := HO.out.ints
            unfold Ints at this
            rwa [← Hm.out] at this)
          have Htk3 := Lib.hid (show (zs.take 0).length ≤ 1000000 by simp)
          have Htk := Lib.hid (show (zs.take 0).length = 0 by simp)
          have HL2 := Lib.hid (show (zs.drop 0).length = i by rw [List.length_drop, ← Hm.out]; rfl)
          have Hm1 := Lib.hid (show 0 + 1 ≤ maxLen by unfold maxLen; omega)
          have Hm2 := Lib.hid (show (0 + 1) * 8 ≤ 140737488355328 by omega)
          have Hm3 := Lib.hid (show 0 + 1 + i ≤ maxLen by unfold maxLen; omega)
          have Hm4 := Lib.hid (show (0 + 1 + i) * 8 ≤ 140737488355328 by omega)
          have hcp : (0 : Int) ≤ (k3 : Int) := by omega
          go_wp2_with fail
          go_region_held3 (fun w' => w'.cell? ⟨bv, ov + i, none⟩ = some (.int .i64 y) ∧ Below wz.heap.size wz w')
            (first | with_reducible assumption | exact ⟨d2, (Below.refl _ _).drew⟩ | exact ⟨cell_below hbz2 d2, hbz2⟩ | exact keep1 hb4 (by assumption) | exact keep1 (below_alloc _ _) (by assumption) | exact keep1B hb5 hbv (Nat.le_refl _) (by assumption) | exact keep1B hb6 hbv (Nat.le_refl _) (by assumption))
            (first
              | (go_at_call 32; refine (l1Ints_any _ (zs.take 0) _ (hI1.out.below hbz) Htk3.out).mono ?_; rintro e w4 ⟨u4, rfl, ho4, hb4⟩; have hofn4 := own_tk ho4 Htk.out; have hz4 : Below wz.heap.size wz w4 := below_of_drew' hb4)
              | (go_at_call 32; refine (l1Ints_any _ (zs.take 0) _ (hI1.out.below hbz2) Htk3.out).mono ?_; rintro e w4 ⟨u4, rfl, ho4, hb4⟩; have hofn4 := own_tk2 ho4 Htk.out; have hz4 := hbz2.trans (hb4.mono hbz2.size); have hrd := hrd2.out.below hb4)
              | (refine step_append_F rfl (.tmp 34) (.tmp 39) 24 rfl 3 (.int .i64 0) 8 Tryz.underlying24 info_int rfl wz.heap.size _ _ 0 _ rfl (hofn4.below (below_alloc _ _)) (le_alloc2 _ (Nat.le_refl _) hz4) (le_alloc2 _ (Nat.le_refl _) (Below.refl _ _)) _ 1 _ rfl (rd_one _ _ _ rfl) (fun j _ => rfl) Hm1.out Hm2.out ?_; intro v5 w5 ho5 hg5; have hb5 := grownBy_below2 hg5 (hofn4.below (below_alloc _ _)) (Nat.le_refl _) (le_alloc2 _ (Nat.le_refl _) hz4); have hB5 := (hz4.trans ((below_alloc _ _).mono hz4.size)).trans hb5; have hs5 := hB5.size)
              | (refine step_append_F rfl (.tmp 34) (.tmp 39) 24 rfl 3 (.int .i64 0) 8 Tryz.underlying24 info_int rfl wz.heap.size _ _ 0 _ rfl hofn4 hz4.size (Nat.le_refl _) _ 1 _ rfl hrd (fun j _ => rfl) Hm1.out Hm2.out ?_; intro v5 w5 ho5 hg5; have hb5 := grownBy_below2 hg5 hofn4 (Nat.le_refl _) hz4.size; have hB5 := hz4.trans hb5; have hs5 := hB5.size)
              | (refine step_append_F rfl (.tmp 40) (.tmp 43) 24 rfl 3 (.int .i64 0) 8 Tryz.underlying24 info_int rfl wz.heap.size _ _ (0 + 1) _ rfl ho5 hs5 (Nat.le_refl _) _ i (iv (zs.drop 0)) rfl (HR2.out.below hB5) (fun j _ => rfl) Hm3.out Hm4.out ?_; intro v6 w6 ho6 hg6; have hb6 := grownBy_below2 hg6 ho5 (Nat.le_refl _) hs5; have hB6 := hB5.trans hb6))
          all_goals (
            obtain ⟨g6, k6, rfl, ho7⟩ := rise_own (n := i + 1) ho6 Htk.out HL2.out (by omega)
            have Ho7 := Lib.hid (ho7.mono hw0 (Nat.le_refl _))
            have HB7 := Lib.hid ((Hb.out.trans ((Hq1.out.below _).mono hsr)).trans (hB6.mono hw0))
            clear ho6 hg6 ho5 hg5 ho7 hb6 hB6 hb5 hB5 hz4 hb4 hofn4 ho4
            go_wp2_with fail
            go_roundg (ys.length - (i + 1))
            case measure => omega
            case rel => exact ⟨i + 1, zs.take 0 ++ y :: zs.drop 0, g6, k6, by omega, rfl, by go_num, rfl, Lib.hid (rise_perm Hpm.out hlt Hy.out), Ho7.out, HB7.out⟩)
        · obtain ⟨s, rfl⟩ : ∃ s, t = s + 1 := ⟨t - 1, by omega⟩
          have hofn := Ho.out.fn
          rw [← Hm.out] at hofn
          obtain ⟨z, hz⟩ : ∃ z, z = zs.getD s 0 := ⟨_, rfl⟩
          have c2 := Hq.out.cell (hofn.cell (show s < i by omega))
          unfold iv at c2
          rw [← hz] at c2
          have Hz := Lib.hid hz
          clear hofn hz
          have hs1 : ((s + 1 : Nat) : Int) - 1 = (s : Int) := by omega
          have hsi : (s : Int) < (i : Int) := by omega
          have hs0 : (0 : Int) < ((s + 1 : Nat) : Int) := by omega
          by_cases hzy : y < z
          · go_wp2_with fail
            go_quiet (fail)
            have Hq1 := Lib.hid (Hq.out.drewN nq)
            go_wp2_with fail
            go_roundg (s + 1)
            case measure => omega
            case rel => exact ⟨s, by omega, rfl, by go_num, Hq1.out⟩
          · go_wp2_with fail
            go_quiet (fail)
            have Hq1 := Lib.hid (Hq.out.drewN nq)
            generalize wy.drewN nq = wz at *
            have d2 := Hq1.out.cell c1
            obtain ⟨t, ht2⟩ : ∃ t, t = s + 1 := ⟨_, rfl⟩
            have ht3 : (s : Int) + 1 = (t : Int) := by omega
            rw [← ht2] at ht
            rw [ht3]
            clear ht3
            clear d1 c1 hs1 hsi hs0 c2 ht2 Hz
            have HO := Lib.hid (Ho.out.below (Hq1.out.below _))
            have hsz := Hq1.out.size
            have hw0 : w.heap.size ≤ wz.heap.size := by omega
            have Hsz := Lib.hid hsz
            have hbz : Below wz.heap.size wz wz.drew := (Below.refl _ _).drew
            have hbz2 : Below wz.heap.size wz (wz.alloc (.cells #[.int .i64 y] 3)).drew := (below_alloc wz _).drew
            have hrd2 := Lib.hid (show Rd (wz.alloc (.cells #[.int .i64 y] 3)).drew (.slice (some ⟨wz.heap.size, 0, none⟩) 1 1) 1 (fun _ => .int .i64 y) from rd_one wz _ _ rfl)
            have hbv : bv < wz.heap.size := World.block_lt_of_cell? _ _ d2
            clear hsz
            by_cases hkt : k3 = t
            · obtain rfl : t = i := by omega
              obtain rfl : k3 = t := hkt
              have hI1 := Lib.hid (ints_takeP2' HO.out.ints Hm.out.symm ht)
              have hI2 := Lib.hid (show Ints wz (.slice (some ⟨g0, 0, none⟩) 0 0) (zs.drop k3) from by
                rw [List.drop_eq_nil_iff.2 (Nat.le_of_eq Hm.out.symm)]
                exact ⟨_, _, rfl, ⟨Nat.le_refl _, Nat.zero_le _⟩, fun h => absurd h (Nat.lt_irrefl _)⟩)
              have Htk3 := Lib.hid (show (zs.take k3).length ≤ 1000000 by rw [List.length_take]; omega)
              have Htk := Lib.hid (show (zs.take k3).length = k3 by rw [List.length_take, ← Hm.out]; omega)
              have HR2 := Lib.hid (show Rd wz (.slice (some ⟨g0, 0, none⟩) 0 0) 0 (iv (zs.drop k3)) from ⟨_, _, rfl, ⟨Nat.le_refl _, Nat.zero_le _⟩, fun h => absurd h (Nat.lt_irrefl _)⟩)
              have HL2 := Lib.hid (show (zs.drop k3).length = 0 by rw [List.length_drop, ← Hm.out]; omega)
              have HN : Hid (k3 + 1 + 0 = k3 + 1) := Lib.hid rfl
              have Hm1 := Lib.hid (show k3 + 1 ≤ maxLen by unfold maxLen; omega)
              have Hm2 := Lib.hid (show (k3 + 1) * 8 ≤ 140737488355328 by omega)
              have Hm3 := Lib.hid (show k3 + 1 + 0 ≤ maxLen by unfold maxLen; omega)
              have Hm4 := Lib.hid (show (k3 + 1 + 0) * 8 ≤ 140737488355328 by omega)
              go_wp2_with fail
              go_region_held3 (fun w' => w'.cell? ⟨bv, ov + k3, none⟩ = some (.int .i64 y) ∧ Below wz.heap.size wz w')
                (first | with_reducible assumption | exact ⟨d2, (Below.refl _ _).drew⟩ | exact ⟨cell_below hbz2 d2, hbz2⟩ | exact keep1 hb4 (by assumption) | exact keep1 (below_alloc _ _) (by assumption) | exact keep1B hb5 hbv (Nat.le_refl _) (by assumption) | exact keep1B hb6 hbv (Nat.le_refl _) (by assumption))
                (first
                  | (go_at_call 32; refine (l1Ints_any _ (zs.take k3) _ (hI1.out.below hbz) Htk3.out).mono ?_; rintro e w4 ⟨u4, rfl, ho4, hb4⟩; have hofn4 := own_tk ho4 Htk.out; have hz4 : Below wz.heap.size wz w4 := below_of_drew' hb4)
                  | (go_at_call 32; refine (l1Ints_any _ (zs.take k3) _ (hI1.out.below hbz2) Htk3.out).mono ?_; rintro e w4 ⟨u4, rfl, ho4, hb4⟩; have hofn4 := own_tk2 ho4 Htk.out; have hz4 := hbz2.trans (hb4.mono hbz2.size); have hrd := hrd2.out.below hb4)
                  | (refine step_append_F rfl (.tmp 34) (.tmp 39) 24 rfl 3 (.int .i64 0) 8 Tryz.underlying24 info_int rfl wz.heap.size _ _ k3 _ rfl (hofn4.below (below_alloc _ _)) (le_alloc2 _ (Nat.le_refl _) hz4) (le_alloc2 _ (Nat.le_refl _) (Below.refl _ _)) _ 1 _ rfl (rd_one _ _ _ rfl) (fun j _ => rfl) Hm1.out Hm2.out ?_; intro v5 w5 ho5 hg5; have hb5 := grownBy_below2 hg5 (hofn4.below (below_alloc _ _)) (Nat.le_refl _) (le_alloc2 _ (Nat.le_refl _) hz4); have hB5 := (hz4.trans ((below_alloc _ _).mono hz4.size)).trans hb5; have hs5 := hB5.size)
                  | (refine step_append_F rfl (.tmp 34) (.tmp 39) 24 rfl 3 (.int .i64 0) 8 Tryz.underlying24 info_int rfl wz.heap.size _ _ k3 _ rfl hofn4 hz4.size (Nat.le_refl _) _ 1 _ rfl hrd (fun j _ => rfl) Hm1.out Hm2.out ?_; intro v5 w5 ho5 hg5; have hb5 := grownBy_below2 hg5 hofn4 (Nat.le_refl _) hz4.size; have hB5 := hz4.trans hb5; have hs5 := hB5.size)
                  | (refine step_append_F rfl (.tmp 40) (.tmp 43) 24 rfl 3 (.int .i64 0) 8 Tryz.underlying24 info_int rfl wz.heap.size _ _ (k3 + 1) _ rfl ho5 hs5 (Nat.le_refl _) _ 0 (iv (zs.drop k3)) rfl (HR2.out.below hB5) (fun j _ => rfl) Hm3.out Hm4.out ?_; intro v6 w6 ho6 hg6; have hb6 := grownBy_below2 hg6 ho5 (Nat.le_refl _) hs5; have hB6 := hB5.trans hb6))
              all_goals (
                obtain ⟨g6, k6, rfl, ho7⟩ := rise_own (n := k3 + 1) ho6 Htk.out HL2.out (by omega)
                have Ho7 := Lib.hid (ho7.mono hw0 (Nat.le_refl _))
                have HB7 := Lib.hid ((Hb.out.trans ((Hq1.out.below _).mono hsr)).trans (hB6.mono hw0))
                clear ho6 hg6 ho5 hg5 ho7 hb6 hB6 hb5 hB5 hz4 hb4 hofn4 ho4
                go_wp2_with fail
                go_roundg (ys.length - (k3 + 1))
                case measure => omega
                case rel => exact ⟨k3 + 1, zs.take k3 ++ y :: zs.drop k3, g6, k6, by omega, rfl, by go_num, rfl, Lib.hid (rise_perm Hpm.out hlt Hy.out), Ho7.out, HB7.out⟩)
            · have hI1 := Lib.hid (ints_takeP2' HO.out.ints Hm.out.symm ht)
              have hI2 := Lib.hid (ints_drop2 HO.out.ints Hm.out.symm ht hk3 hk33)
              have Htk3 := Lib.hid (show (zs.take t).length ≤ 1000000 by rw [List.length_take]; omega)
              have Htk := Lib.hid (show (zs.take t).length = t by rw [List.length_take, ← Hm.out]; omega)
              have HR2 := Lib.hid (show Rd wz (.slice (some ⟨g0, t, none⟩) (i - t) (k3 - t)) (i - t) (iv (zs.drop t)) from by
                have := hI2.out
                unfold Ints at this
                rwa [List.length_drop, ← Hm.out] at this)
              have HL2 := Lib.hid (show (zs.drop t).length = i - t by rw [List.length_drop, ← Hm.out])
              have HN : Hid (t + 1 + (i - t) = i + 1) := Lib.hid (by omega)
              have Hm1 := Lib.hid (show t + 1 ≤ maxLen by unfold maxLen; omega)
              have Hm2 := Lib.hid (show (t + 1) * 8 ≤ 140737488355328 by omega)
              have Hm3 := Lib.hid (show t + 1 + (i - t) ≤ maxLen by unfold maxLen; omega)
              have Hm4 := Lib.hid (show (t + 1 + (i - t)) * 8 ≤ 140737488355328 by omega)
              have hcp : (t : Int) ≤ (k3 : Int) := by omega
              go_wp2_with fail
              go_region_held3 (fun w' => w'.cell? ⟨bv, ov + i, none⟩ = some (.int .i64 y) ∧ Below wz.heap.size wz w')
                (first | with_reducible assumption | exact ⟨d2, (Below.refl _ _).drew⟩ | exact ⟨cell_below hbz2 d2, hbz2⟩ | exact keep1 hb4 (by assumption) | exact keep1 (below_alloc _ _) (by assumption) | exact keep1B hb5 hbv (Nat.le_refl _) (by assumption) | exact keep1B hb6 hbv (Nat.le_refl _) (by assumption))
                (first
                  | (go_at_call 32; refine (l1Ints_any _ (zs.take t) _ (hI1.out.below hbz) Htk3.out).mono ?_; rintro e w4 ⟨u4, rfl, ho4, hb4⟩; have hofn4 := own_tk ho4 Htk.out; have hz4 : Below wz.heap.size wz w4 := below_of_drew' hb4)
                  | (go_at_call 32; refine (l1Ints_any _ (zs.take t) _ (hI1.out.below hbz2) Htk3.out).mono ?_; rintro e w4 ⟨u4, rfl, ho4, hb4⟩; have hofn4 := own_tk2 ho4 Htk.out; have hz4 := hbz2.trans (hb4.mono hbz2.size); have hrd := hrd2.out.below hb4)
                  | (refine step_append_F rfl (.tmp 34) (.tmp 39) 24 rfl 3 (.int .i64 0) 8 Tryz.underlying24 info_int rfl wz.heap.size _ _ t _ rfl (hofn4.below (below_alloc _ _)) (le_alloc2 _ (Nat.le_refl _) hz4) (le_alloc2 _ (Nat.le_refl _) (Below.refl _ _)) _ 1 _ rfl (rd_one _ _ _ rfl) (fun j _ => rfl) Hm1.out Hm2.out ?_; intro v5 w5 ho5 hg5; have hb5 := grownBy_below2 hg5 (hofn4.below (below_alloc _ _)) (Nat.le_refl _) (le_alloc2 _ (Nat.le_refl _) hz4); have hB5 := (hz4.trans ((below_alloc _ _).mono hz4.size)).trans hb5; have hs5 := hB5.size)
                  | (refine step_append_F rfl (.tmp 34) (.tmp 39) 24 rfl 3 (.int .i64 0) 8 Tryz.underlying24 info_int rfl wz.heap.size _ _ t _ rfl hofn4 hz4.size (Nat.le_refl _) _ 1 _ rfl hrd (fun j _ => rfl) Hm1.out Hm2.out ?_; intro v5 w5 ho5 hg5; have hb5 := grownBy_below2 hg5 hofn4 (Nat.le_refl _) hz4.size; have hB5 := hz4.trans hb5; have hs5 := hB5.size)
                  | (refine step_append_F rfl (.tmp 40) (.tmp 43) 24 rfl 3 (.int .i64 0) 8 Tryz.underlying24 info_int rfl wz.heap.size _ _ (t + 1) _ rfl ho5 hs5 (Nat.le_refl _) _ (i - t) (iv (zs.drop t)) rfl (HR2.out.below hB5) (fun j _ => rfl) Hm3.out Hm4.out ?_; intro v6 w6 ho6 hg6; have hb6 := grownBy_below2 hg6 ho5 (Nat.le_refl _) hs5; have hB6 := hB5.trans hb6))
              all_goals (
                obtain ⟨g6, k6, rfl, ho7⟩ := rise_own (n := i + 1) ho6 Htk.out HL2.out (by omega)
                have Ho7 := Lib.hid (ho7.mono hw0 (Nat.le_refl _))
                have HB7 := Lib.hid ((Hb.out.trans ((Hq1.out.below _).mono hsr)).trans (hB6.mono hw0))
                clear ho6 hg6 ho5 hg5 ho7 hb6 hB6 hb5 hB5 hz4 hb4 hofn4 ho4
                go_wp2_with fail
                go_roundg (ys.length - (i + 1))
                case measure => omega
                case rel => exact ⟨i + 1, zs.take t ++ y :: zs.drop t, g6, k6, by omega, rfl, by go_num, rfl, Lib.hid (rise_perm Hpm.out hlt Hy.out), Ho7.out, HB7.out⟩)
    · obtain rfl : i = ys.length := by omega
      have hlt2 : ¬ (ys.length : Int) < (ys.length : Int) := by omega
      go_wp2_with fail
      go_ret
      have hpf := Hpm.out
      rw [List.take_length] at hpf
      first | exact ⟨_, rfl, zs, Ho.out, hpf, Hb.out⟩ | exact ⟨_, zs, rfl, Ho.out, hpf, Hb.out⟩

end Go.Proofs.YtgebjjpcgakjgaaGreat

namespace Go.Proofs.YtgebjjpcgakjgaaGreat
set_option linter.all false
open Go.RowKit

set_option maxRecDepth 100000 in
set_option maxHeartbeats 8000000 in
theorem DrawPairs_any (v : Value) (l : Nat) (w : World) (h : Byts w v l) :
    Calls Tryz.prog 5 #[v] w fun e w' =>
      ∃ (u1 u2 u3 : Value) (xs zs ys : List Int) (n : Nat), e = .returned (.tuple #[u1, u2, u3]) ∧ Ints w' u1 xs ∧ Ints w' u2 zs ∧ Ints w' u3 ys ∧ P5 n xs ∧ P5 n zs ∧ ys.length = n ∧ ys.Nodup ∧ (∀ y ∈ ys, -9 ≤ y ∧ y ≤ 9) ∧ 1 ≤ n ∧ n ≤ 4 ∧ Below w.heap.size w w' := by
  have Hh := Lib.hid h
  obtain ⟨_, _, cap, rfl, _⟩ := h
  go_enter Tryz.func5, Tryz.ntmps5
  go_wp2_with fail
  refine (l1New_any _ l _ Hh.out).mono ?_
  rintro e w2 ⟨rfl, hc2, hb2⟩
  have HC2 := Lib.hid hc2
  have HB2 := Lib.hid hb2
  have hk2 := hc2.lt
  clear hc2 hb2
  go_wp2_with fail
  refine (l1Below_any w.heap.size 4 _ HC2.out (by omega) (by omega)).mono ?_
  rintro e w3 ⟨m, rfl, hm, hc3, hf3⟩
  have HC3 := Lib.hid hc3
  have HB3 := Lib.hid (HB2.out.trans (hf3.below (Nat.le_refl _) (by omega)))
  have hs3 := hf3.size
  clear hc3 hf3
  have hmm : 1 + (m : Int) = ((m + 1 : Nat) : Int) := by omega
  obtain ⟨n, hn⟩ : ∃ n, n = m + 1 := ⟨_, rfl⟩
  rw [← hn] at hmm
  have Hmm := Lib.hid hmm
  have hn1 : 1 ≤ n := by omega
  have hn4 : n ≤ 4 := by omega
  clear hn hmm
  go_wp2_with fail
  rw [Hmm.out]
  refine (dApart_any w.heap.size n _ HC3.out (by omega)).mono ?_
  rintro e w4 ⟨u3, ys, rfl, ho4, hl4, hd4, hr4, hc4, hf4⟩
  have HY4 := Lib.hid ho4
  have HL := Lib.hid hl4
  have HD := Lib.hid hd4
  have HR := Lib.hid hr4
  have HC4 := Lib.hid hc4
  have HB4 := Lib.hid (HB3.out.trans (hf4.below (Nat.le_refl _) (by omega)))
  have hs4 := hf4.size
  clear ho4 hl4 hd4 hr4 hc4 hf4
  go_wp2_with fail
  refine (l1Once_any w.heap.size 2 _ HC4.out (by omega) (by omega)).mono ?_
  rintro e w5 ⟨b, rfl, hc5, hf5⟩
  have HC5 := Lib.hid hc5
  have HB5 := Lib.hid (HB4.out.trans (hf5.below (Nat.le_refl _) (by omega)))
  have HY5 := Lib.hid (HY4.out.frm hf5 (Or.inr (by omega)))
  have hs5 := hf5.size
  clear hc5 hf5
  cases b with
  | false =>
    go_wp2_with fail
    refine (dPerm_any w.heap.size n _ HC5.out (by omega) (by omega)).mono ?_
    rintro e w6 ⟨u1, xs, rfl, ho1, hp1, hl1, hc6, hf6⟩
    have HX6 := Lib.hid ho1
    have HP1 := Lib.hid (show P5 n xs from ⟨hp1, hl1, by omega⟩)
    have HC6 := Lib.hid hc6
    have HB6 := Lib.hid (HB5.out.trans (hf6.below (Nat.le_refl _) (by omega)))
    have HY6 := Lib.hid (HY5.out.frm hf6 (Or.inr (by omega)))
    have hs6 := hf6.size
    clear ho1 hp1 hl1 hc6 hf6
    go_wp2_with fail
    refine (dPerm_any w.heap.size n _ HC6.out (by omega) (by omega)).mono ?_
    rintro e w7 ⟨u2, zs, rfl, ho2, hp2, hl2, hc7, hf7⟩
    have HZ7 := Lib.hid ho2
    have HP2 := Lib.hid (show P5 n zs from ⟨hp2, hl2, by omega⟩)
    have HB7 := Lib.hid (HB6.out.trans (hf7.below (Nat.le_refl _) (by omega)))
    have HY7 := Lib.hid (HY6.out.frm hf7 (Or.inr (by omega)))
    have HX7 := Lib.hid (HX6.out.frm hf7 (Or.inr (by omega)))
    clear ho2 hp2 hl2 hc7 hf7
    go_wp2_with fail
    go_ret3
    exact ⟨_, _, _, xs, zs, ys, n, rfl, HX7.out.ints, HZ7.out.ints, HY7.out.ints, HP1.out, HP2.out, HL.out, HD.out, HR.out, hn1, hn4, HB7.out⟩
  | true =>
    go_wp2_with fail
    refine (dRise_any _ ys _ HY5.out.ints (by rw [HL.out]; exact hn4)).mono ?_
    rintro e w5b ⟨u4, yr, rfl, ho5, hpm5, hb5⟩
    have HYr := Lib.hid ho5
    have HPm := Lib.hid hpm5
    have HC5b := Lib.hid (HC5.out.below hb5)
    have HB5b := Lib.hid (HB5.out.trans (hb5.mono (by omega)))
    have hs5b := hb5.size
    clear ho5 hpm5 hb5
    go_wp2_with fail
    refine (dPerm_any w.heap.size n _ HC5b.out (by omega) (by omega)).mono ?_
    rintro e w6 ⟨u1, xs, rfl, ho1, hp1, hl1, hc6, hf6⟩
    have HX6 := Lib.hid ho1
    have HP1 := Lib.hid (show P5 n xs from ⟨hp1, hl1, by omega⟩)
    have HC6 := Lib.hid hc6
    have HB6 := Lib.hid (HB5b.out.trans (hf6.below (Nat.le_refl _) (by omega)))
    have HY6 := Lib.hid (HYr.out.frm hf6 (Or.inr (by omega)))
    have hs6 := hf6.size
    clear ho1 hp1 hl1 hc6 hf6
    go_wp2_with fail
    refine (dPerm_any w.heap.size n _ HC6.out (by omega) (by omega)).mono ?_
    rintro e w7 ⟨u2, zs, rfl, ho2, hp2, hl2, hc7, hf7⟩
    have HZ7 := Lib.hid ho2
    have HP2 := Lib.hid (show P5 n zs from ⟨hp2, hl2, by omega⟩)
    have HB7 := Lib.hid (HB6.out.trans (hf7.below (Nat.le_refl _) (by omega)))
    have HY7 := Lib.hid (HY6.out.frm hf7 (Or.inr (by omega)))
    have HX7 := Lib.hid (HX6.out.frm hf7 (Or.inr (by omega)))
    clear ho2 hp2 hl2 hc7 hf7
    go_wp2_with fail
    go_ret3
    exact ⟨_, _, _, xs, zs, yr, n, rfl, HX7.out.ints, HZ7.out.ints, HY7.out.ints, HP1.out, HP2.out, (HPm.out.length_eq.trans HL.out), (HPm.out.nodup_iff.2 HD.out), (fun y hy => HR.out y (HPm.out.mem_iff.1 hy)), hn1, hn4, HB7.out⟩

end Go.Proofs.YtgebjjpcgakjgaaGreat
