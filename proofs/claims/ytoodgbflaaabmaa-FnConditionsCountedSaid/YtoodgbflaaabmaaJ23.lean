/-
  The law FnConditionsCounted, walked.
-/
import Derived.Test.YtoodgbflaaabmaaJ21
import Derived.Test.YtoodgbflaaabmaaJ22
import Derived.Test.YtoodgbflaaabmaaJ4
import Derived.Test.YtoodgbflaaabmaaJ9
namespace Go.Proofs.Ytoodgbflaaabmaa
set_option linter.all false
open Go.RowKit

/-! ### the flag turned round -/
def turnL (n : Nat) (D : List Int) (t : Nat) : List Int := (List.range (t * n)).map fun x => D.getD ((n - 1 - x / n) * n + x % n) 0
theorem turnL_length (n : Nat) (D : List Int) (t : Nat) : (turnL n D t).length = t * n := by simp [turnL]
theorem turnL_getD {n t x : Nat} {D : List Int} (h : x < t * n) : (turnL n D t).getD x 0 = D.getD ((n - 1 - x / n) * n + x % n) 0 := by simp [turnL, List.getD_eq_getElem?_getD, h]
theorem turnL_at {n t i c : Nat} {D : List Int} (hi : i < t) (hc : c < n) : (turnL n D t).getD (i * n + c) 0 = D.getD ((n - 1 - i) * n + c) 0 := by
  have h1 : i * n + c < t * n := by
    have := Nat.mul_le_mul_right n (show i + 1 ≤ t by omega)
    rw [Nat.succ_mul] at this
    omega
  rw [turnL_getD h1]
  have e1 : (i * n + c) / n = i := by rw [Nat.mul_comm, Nat.mul_add_div (by omega), Nat.div_eq_of_lt hc, Nat.add_zero]
  have e2 : (i * n + c) % n = c := by rw [Nat.mul_comm, Nat.mul_add_mod, Nat.mod_eq_of_lt hc]
  rw [e1, e2]
theorem turn_of {n : Nat} {D : List Int} : TurnOf n true (mf n fun t => D.getD t 0) (mf n fun t => (turnL n D n).getD t 0) := fun i c hi hc => turnL_at hi hc
theorem turn_fl {P : Int} {n : Nat} {D : List Int} (h : IsFl P n n D) : IsFl P n n (turnL n D n) := by
  obtain ⟨n', e, _, h1, h7, hl, hr, hP, _, hp, _⟩ := h.facts
  obtain rfl := Int.ofNat.inj e
  refine isFl_of hp h1 h7 (turnL_length _ _ _) (fun x hx => ?_) (((eps_indep P n true).mul h.indep).eqv fun i j hi hj => ?_)
  · unfold turnL at hx
    obtain ⟨t, _, rfl⟩ := List.mem_map.1 hx
    exact getD_range hr (by omega) _
  · have a := turn_of (n := n) (D := D) i j hi hj
    rw [a, pr_eps hi]
    simp

theorem mfq1 (P : Int) (r n : Nat) (dA dB dS : Value) (DA DB DS : List Int) (Q : Bool) (hs : SfIs P r n DA P n n DB) (hx : bxOk DS r n = true) (hQ : Q = true ↔ MfUp P r n (mf n fun t => DA.getD t 0) (mf n fun t => DB.getD t 0) DS r) (w : World) (hdA : Ints w dA DA) (hdB : Ints w dB DB) (hdS : Ints w dS DS) :
    Calls Try.prog 29 #[.agg #[.int .i64 P, .int .i64 (r : Int), .int .i64 (n : Int), dA], .agg #[.int .i64 P, .int .i64 (n : Int), .int .i64 (n : Int), dB], dS] w fun e w' => e = .returned (.bool Q) ∧ Below w.heap.size w w' := by
  refine mf1 P r n dA dB dS DA DB DS Q (fun b' hb' => ?_) w hdA hdB hdS
  unfold MfIs at hb'
  simp only [Int.toNat_natCast] at hb'
  have : b' = true ↔ Q = true := by
    rw [hb', hQ]
    exact ⟨fun h => h.2.2, fun h => ⟨hs, hx, h⟩⟩
  cases b' <;> cases Q <;> simp_all
/-! ### counts so far -/
def cQ (p k m : Nat) (L : List (List Int)) (Q : List Int → Bool) (t : Nat) : Nat := ((L.take t).flatMap (spsL p k m)).countP Q
theorem cQ_zero (p k m : Nat) (L : List (List Int)) (Q : List Int → Bool) : cQ p k m L Q 0 = 0 := by simp [cQ]
theorem cQ_succ {p k m t : Nat} {L : List (List Int)} {Q : List Int → Bool} (h : t < L.length) : cQ p k m L Q (t + 1) = cQ p k m L Q t + (spsL p k m (L.getD t [])).countP Q := by
  unfold cQ
  rw [List.take_succ, List.getElem?_eq_getElem h, List.flatMap_append, List.countP_append, List.getD_eq_getElem?_getD, List.getElem?_eq_getElem h]
  simp
def cI (ms : List Mx) (Q : List Int → Bool) (j : Nat) : Nat := ((ms.map Mx.D).take j).countP Q
theorem cI_zero (ms : List Mx) (Q : List Int → Bool) : cI ms Q 0 = 0 := by simp [cI]
theorem cI_succ {ms : List Mx} {Q : List Int → Bool} {j : Nat} (h : j < ms.length) : cI ms Q (j + 1) = cI ms Q j + if Q (ms.getD j mxZero).D then 1 else 0 := by
  unfold cI
  rw [List.take_succ, List.getElem?_eq_getElem (by simpa using h), List.countP_append, List.getD_eq_getElem?_getD, List.getElem?_eq_getElem h]
  simp [List.countP_cons]
theorem cI_all (ms : List Mx) (Q : List Int → Bool) : cI ms Q ms.length = (ms.map Mx.D).countP Q := by
  unfold cI
  rw [List.take_of_length_le (by simp)]
theorem cI_le (ms : List Mx) (Q : List Int → Bool) (j : Nat) : cI ms Q j ≤ j := by
  unfold cI
  exact Nat.le_trans List.countP_le_length (by rw [List.length_take]; omega)
def wQ (p k m : Nat) (L : List (List Int)) (a : List Int) (t : Nat) : Nat := ((L.take t).map fun l => if cnB l a then p ^ ((k : Int) * (m : Int) - sumI l).toNat else 0).sum
theorem wQ_zero (p k m : Nat) (L : List (List Int)) (a : List Int) : wQ p k m L a 0 = 0 := by simp [wQ]
theorem wQ_succ {p k m t : Nat} {L : List (List Int)} {a : List Int} (h : t < L.length) : wQ p k m L a (t + 1) = wQ p k m L a t + if cnB (L.getD t []) a then p ^ ((k : Int) * (m : Int) - sumI (L.getD t [])).toNat else 0 := by
  unfold wQ
  rw [List.take_succ, List.getElem?_eq_getElem h, List.map_append, List.sum_append, List.getD_eq_getElem?_getD, List.getElem?_eq_getElem h]
  simp
theorem keep8c {wr W W' : World} {a0 a1 a2 a3 a4 a5 a6 a7 : Addr} {v0 v1 v2 v3 v4 v5 v6 v7 : Value} (hb : Below W.heap.size W W') (h : (W.cell? a0 = some v0 ∧ W.cell? a1 = some v1 ∧ W.cell? a2 = some v2 ∧ W.cell? a3 = some v3 ∧ W.cell? a4 = some v4 ∧ W.cell? a5 = some v5 ∧ W.cell? a6 = some v6 ∧ W.cell? a7 = some v7) ∧ Below wr.heap.size wr W) : (W'.cell? a0 = some v0 ∧ W'.cell? a1 = some v1 ∧ W'.cell? a2 = some v2 ∧ W'.cell? a3 = some v3 ∧ W'.cell? a4 = some v4 ∧ W'.cell? a5 = some v5 ∧ W'.cell? a6 = some v6 ∧ W'.cell? a7 = some v7) ∧ Below wr.heap.size wr W' := by
  obtain ⟨⟨h0, h1, h2, h3, h4, h5, h6, h7⟩, hB⟩ := h
  exact ⟨⟨cell_below hb h0, cell_below hb h1, cell_below hb h2, cell_below hb h3, cell_below hb h4, cell_below hb h5, cell_below hb h6, cell_below hb h7⟩, below_trans hB hb⟩

set_option maxRecDepth 100000 in
set_option maxHeartbeats 8000000 in
theorem lawFnConditionsCounted (p : Option Addr) (l cap : Nat) (w : World) (hl : l ≤ maxLen) (h : Byts w (.slice p l cap) l) :
    Calls Try.prog 6 #[.slice p l cap] w fun e w' => e = .returned (.bool true) ∧ Below w.heap.size w w' := by
  have Hl := Lib.hid hl
  have Hh := Lib.hid h
  clear hl h
  go_enter Try.func6, Try.ntmps6
  go_wp2_with fail
  refine (big_any p l cap _ Hl.out).mono ?_
  rintro e w' ⟨rfl, rfl⟩
  by_cases hb : 1048576 < l
  · have e1 : decide (1048576 < l) = true := by simp [hb]
    rw [e1]
    go_wp2_with fail
    go_ret
    exact ⟨rfl, Below.refl _ _⟩
  · have e1 : decide (1048576 < l) = false := by simp [hb]
    rw [e1]
    clear e1 hb
    go_wp2_with fail
    refine (DrawSmallFlag_any _ l _ Hh.out).mono ?_
    rintro e w1 ⟨P, k, m, n, uf, ua, ub, DF, A, B, rfl, hnk, hSm, ⟨hiF, hsF⟩, ⟨hiA, hbA⟩, ⟨hiB, hbB⟩, hb1⟩
    have IF1 := Lib.hid hiF
    have IA1 := Lib.hid hiA
    have IB1 := Lib.hid hiB
    have HsF := Lib.hid hsF
    have HbA := Lib.hid hbA
    have HbB := Lib.hid hbB
    obtain ⟨pF, kF, rfl, ⟨hkF, hkF2⟩, _⟩ := hiF
    unfold maxLen at hkF2
    obtain ⟨pA, kA, rfl, _, _⟩ := hiA
    obtain ⟨pB, kB, rfl, _, _⟩ := hiB
    have HSm := Lib.hid hSm
    have hn7 : n ≤ 7 := by have := hSm.2.2.2; omega
    have hn4 : n ≤ 4 := by have := hSm.2.2.2; omega
    have hk1 : 1 ≤ k := hSm.2.1
    have hn1 : 1 ≤ n := by omega
    have hkn : k ≤ n := by omega
    have hk6 : k ≤ 6 := by have := hSm.2.2.2; omega
    have hm6 : m ≤ 6 := by have := hSm.2.2.2; omega
    have hnm : n - k = m := by omega
    have HB1 := Lib.hid hb1
    obtain ⟨hs1, hs2, hs3⟩ := hSm.small
    have hP2 : 1 ≤ P := by rcases hSm.1 with rfl | ⟨rfl, _⟩ <;> omega
    have hP7 : P ≤ 7 := by rcases hSm.1 with rfl | ⟨rfl, _⟩ <;> omega
    have hCC : CcL P k m DF (turnL n DF n) A B := by
      subst hnk
      exact ccL hSm hsF turn_of hbA hbB
    have HCC := Lib.hid hCC
    have HsT := Lib.hid (turn_fl hsF)
    have HlF := Lib.hid (show DF.length = n * n by
      obtain ⟨n', e, _, _, _, hl, _⟩ := hsF.facts
      obtain rfl := Int.ofNat.inj e
      exact hl)
    have Hnk := Lib.hid hnk
    have Hnm := Lib.hid hnm
    have Hs := Lib.hid (show (m + 1) ^ k ≤ 1000 ∧ P ^ (k * m + 1) ≤ 1000 ∧ k * m ≤ 4 from ⟨hs1, hs2, hs3⟩)
    have Hnki := Lib.hid (show (n : Int) - (k : Int) = (m : Int) by omega)
    clear hSm hb1 hs1 hs2 hs3 hnk hnm hCC hsF hbA hbB
    go_wp2_with fail
    obtain ⟨w2, hw2⟩ : ∃ x : World, x = w1.alloc (.cells #[.int .i64 (P : Int), .int .i64 (n : Int), .int .i64 (n : Int), .slice pF DF.length kF] 34) := ⟨_, rfl⟩
    have hz2 : w2.heap[w1.heap.size]? = some (.cells #[.int .i64 (P : Int), .int .i64 (n : Int), .int .i64 (n : Int), .slice pF DF.length kF] 34) := by rw [hw2]; exact heap_alloc_top _ _
    have hb2 : Below w1.heap.size w1 w2 := by rw [hw2]; exact below_alloc _ _
    rw [← hw2]
    have HB2 := Lib.hid (HB1.out.trans (hb2.mono HB1.out.size))
    have HZ2 := Lib.hid hz2
    have IF2 := Lib.hid (IF1.out.below hb2)
    have IA2 := Lib.hid (IA1.out.below hb2)
    have IB2 := Lib.hid (IB1.out.below hb2)
    clear hw2 hz2 hb2 HB1 IF1 IA1 IB1
    refine (boxShapes_any k n _ hk6 hkn (by rw [Hnm.out]; exact hm6) (by rw [Hnm.out]; have := Hs.out.1; omega)).mono ?_
    rintro e w3 ⟨u, rfl, hou, hb3⟩
    rw [Hnm.out] at hou
    obtain ⟨L, hL⟩ : ∃ L, L = shs k m [] := ⟨_, rfl⟩
    rw [← hL] at hou
    have hLl : L.length ≤ 1000 := by rw [hL]; exact Nat.le_trans (shs_len k m []) Hs.out.1
    have HL := Lib.hid hL
    obtain ⟨pL, kL, rfl, hkL, hkL2⟩ := hou.shape
    unfold maxLen at hkL2
    obtain ⟨fL, hfL, hrL⟩ := hou.rd
    have HfL := Lib.hid hfL
    have HrL := Lib.hid hrL
    have HB3 := Lib.hid (HB2.out.trans (hb3.mono HB2.out.size))
    have HZ3 := Lib.hid (blk_later HZ2.out hb3)
    have IF3 := Lib.hid (IF2.out.below hb3)
    have IA3 := Lib.hid (IA2.out.below hb3)
    have IB3 := Lib.hid (IB2.out.below hb3)
    have hz13 : w1.heap.size < w3.heap.size := blk_lt HZ3.out
    clear hou hL hfL hrL hb3 HB2 HZ2 IF2 IA2 IB2
    go_wp2_with fail
    go_loopg [14] (n + 1) (fun g s14 wr => ∃ (t : Nat) (pS : Option Addr) (kS : Nat) (LT : List Int), t ≤ n ∧ g = n - t + 1 ∧ s14 = .int .i64 ((n : Int) - 1 - (t : Int)) ∧ Hid (Below w3.heap.size w3 wr) ∧ Hid (LT = turnL n DF t) ∧
      Hid (wr.heap[w3.heap.size + 1]? = some (.cells #[.int .i64 (P : Int), .int .i64 (n : Int), .int .i64 (n : Int), .slice pS LT.length kS] 34 (0, 0))) ∧
      Hid (OwnI 3 wr w3.heap.size wr.heap.size (.slice pS LT.length kS) LT))
    case atStart =>
      have hl0 : (turnL n DF 0).length = 0 := by simp [turnL]
      refine ⟨0, some ⟨w3.heap.size, 0, none⟩, 0, turnL n DF 0, Nat.zero_le _, rfl, by go_num, Lib.hid (below_alloc2 _ _ _), Lib.hid rfl, Lib.hid ?_, Lib.hid ?_⟩
      · rw [hl0]; exact heap_alloc_at _ _ (by simp)
      · refine OwnF.ints ?_
        rw [hl0]
        exact (((OwnF.made0 w3 3 (fun _ => .int .i64 0)).below (below_alloc _ _)).mono (Nat.le_refl _) (by simp)).congr fun j hj => absurd hj (Nat.not_lt_zero _)
    case round =>
      obtain ⟨t, pS, kS, LT, ht, rfl, rfl, hbx, hLT, hq, ho⟩ := hrel
      obtain ⟨q0, q1, q2, q3, qf', qz⟩ := blk4 hq.out
      obtain ⟨m0, m1, m2, m3, mf', mz⟩ := blk4 (blk_later HZ3.out hbx.out)
      by_cases hlt : t < n
      · obtain ⟨i, hi⟩ : ∃ i, i = n - 1 - t := ⟨_, rfl⟩
        have hii : (n : Int) - 1 - (t : Int) = (i : Int) := by omega
        rw [hii]
        have hin : i < n := by omega
        have hi0 : (0 : Int) ≤ (i : Int) := by omega
        have hkc := mul_le_of (C := n) hin
        rw [Nat.add_mul, Nat.one_mul] at hkc
        obtain ⟨K1, hK1, r1, r2⟩ := mul_named i n (by have := Nat.mul_le_mul (show i ≤ 7 by omega) hn7; omega)
        have R1 := Lib.hid r1
        have R2 := Lib.hid r2
        clear r1 r2
        have hDl := HlF.out
        have hKn : K1 + n ≤ DF.length := by omega
        have hnn : n * n ≤ 16 := Nat.mul_le_mul hn4 hn4
        have hK16 : K1 + n ≤ 16 := by omega
        have hKc : K1 < kF := by omega
        have hKc2 : ¬ kF = K1 := by omega
        have hcx := (IF3.out.below hbx.out)
        obtain ⟨_, _, e0, _, hc0⟩ := hcx
        injection e0 with e1 e2 e3
        subst e1 e3
        obtain ⟨bl, off, hpF, _⟩ := hc0 (by omega)
        subst hpF
        have Q1 := Lib.hid (w64 (n := (K1 : Int) + (n : Int)) (by omega) (by omega))
        have Q2 := Lib.hid (k64 (n := (K1 : Int) + (n : Int)) (by omega) (by omega))
        have hi1 : (0 : Int) ≤ (K1 : Int) := by omega
        have hi2 : (K1 : Int) ≤ (K1 : Int) + (n : Int) := by omega
        have hi3 : (K1 : Int) + (n : Int) ≤ (kF : Int) := by omega
        have hi4 : ((K1 : Int) + (n : Int)).toNat = K1 + n := by omega
        have hi5 : (K1 : Int).toNat = K1 := by omega
        have HK1 := Lib.hid hK1
        have Hii := Lib.hid hii
        have Hi := Lib.hid hi
        clear hc0 hDl hkc hK1 e2 hii hi hnn hKn
        go_wp2_with fail
        have f1 := R1.out
        have f2 := R2.out
        have f3 := Q1.out
        have f4 := Q2.out
        go_still_tail 13, (by kernel_rfl)
        change wpList _ _ _ _ _ wr.drew
        clear f1 f2 f3 f4
        have hqo := own_box ho.out.fn hq.out (by decide)
        have hlL : LT.length = t * n := by rw [hLT.out, turnL_length]
        have htn : t * n ≤ 16 := Nat.le_trans (Nat.mul_le_mul (show t ≤ 4 by omega) hn4) (by omega)
        have hrd0 : Ints wr (.slice (some ⟨bl, off, none⟩) DF.length kF) DF := IF3.out.below hbx.out
        have hrd1 := Rd.part hrd0 K1 n (kF - K1) (by have := HlF.out; have := HK1.out; have := mul_le_of (C := n) hin; rw [Nat.add_mul, Nat.one_mul] at this; omega) (by omega) (by unfold maxLen; omega)
        have Hrd := Lib.hid (hrd1.below (w' := wr.drew) (Below.refl _ _).drew)
        have Ho := Lib.hid (ho.out.below (w' := wr.drew) (Below.refl _ _).drew)
        have hsz0 : wr.drew.heap.size = wr.heap.size := rfl
        have hwz := hbx.out.size
        have Hb1 := Lib.hid (show LT.length + n ≤ maxLen by unfold maxLen; omega)
        have Hb2 := Lib.hid (show (LT.length + n) * 8 ≤ 140737488355328 by omega)
        have HlL := Lib.hid hlL
        have Hqo := Lib.hid hqo
        clear hrd0 hrd1 hlL htn hqo
        go_wp2_with (at_builtin; go_must (refine wpList_append_F rfl (.tmp 47) (.tmp 58) 24 rfl 3 (.int .i64 0) 8 Try.underlying24 info_int rfl w3.heap.size wr.heap.size _ LT.length (iv LT) rfl Ho.out.fn (by omega) (by omega) _ n _ rfl Hrd.out (fun j _ => iv_one _ _) Hb1.out Hb2.out ?_; intro v' w' ho' hg'; have hq' := (hg'.block (w3.heap.size + 1) (by omega) (fun e => Hqo.out e.symm)).trans hq.out; obtain ⟨u0, u1, u2, u3, uf, uz⟩ := blk4 hq'; obtain ⟨p', k', rfl, hk1', hk2', _⟩ := ho'.shape))
        have hsw := hg'.size
        have hbw : Below w3.heap.size w3 w' := (hbx.out.drew).trans (grownBy_below hg' Ho.out.fn.blocks (by omega) (by omega))
        have hL2 : (turnL n DF (t + 1)).length = LT.length + n := by rw [turnL_length, HlL.out, Nat.add_mul, Nat.one_mul]
        have hoI : OwnI 3 w' w3.heap.size w'.heap.size (.slice p' (LT.length + n) k') (turnL n DF (t + 1)) := by
          refine OwnF.ints ?_
          rw [hL2]
          refine ho'.congr fun x hx => ?_
          by_cases e : x < LT.length
          · rw [if_pos e, hLT.out]
            unfold iv
            have hx1 : x < t * n := by rw [← HlL.out]; exact e
            rw [turnL_getD hx1, turnL_getD (by rw [Nat.add_mul, Nat.one_mul]; omega)]
          · rw [if_neg e]
            obtain ⟨j, rfl⟩ : ∃ j, x = t * n + j := ⟨x - t * n, by rw [HlL.out] at e; omega⟩
            have hj : j < n := by rw [HlL.out] at hx; omega
            unfold iv
            rw [turnL_at (Nat.lt_succ_self t) hj, HlL.out, HK1.out, Hi.out]
            congr 3
            omega
        have hnq := own_box hoI.fn hq' (by decide)
        go_roundg (n - (t + 1) + 1)
        case measure => omega
        case rel =>
          refine ⟨t + 1, p', k', turnL n DF (t + 1), by omega, rfl, ?_, Lib.hid (hbw.setCell (by show w3.heap.size ≤ w3.heap.size + 1; omega) _), Lib.hid rfl, Lib.hid ?_, Lib.hid ?_⟩
          · have := Hii.out
            exact congrArg (Value.int .i64) (by omega)
          · have := heap_setCell_at hq' 3 (.slice p' (LT.length + n) k')
            rw [hL2]
            simpa using this
          · rw [hL2, size_setCell]
            exact hoI.at_block fun k hk => Below.heap_setCell _ _ _ _ (by show k ≠ w3.heap.size + 1; exact fun e => hnq (e ▸ hk))
      · obtain rfl : n = t := by omega
        have hi0 : ¬ (0 : Int) ≤ (n : Int) - 1 - (n : Int) := by omega
        have hi0' : ¬ (n : Int) ≤ (n : Int) - 1 := by omega
        have hi0d : decide ((n : Int) ≤ (n : Int) - 1) = false := decide_eq_false (by omega)
        obtain ⟨DT, hDT⟩ : ∃ DT, DT = turnL n DF n := ⟨_, rfl⟩
        have hLD : LT = DT := by rw [hLT.out, hDT]
        subst hLD
        obtain ⟨w4, rfl⟩ : ∃ x : World, x = wr := ⟨_, rfl⟩
        have HDT := Lib.hid hDT
        have HZ4 := Lib.hid (blk_later HZ3.out hbx.out)
        have HT4 := Lib.hid hq.out
        have IT4 := Lib.hid ho.out.ints
        have IF4 := Lib.hid (IF3.out.below hbx.out)
        have IA4 := Lib.hid (IA3.out.below hbx.out)
        have IB4 := Lib.hid (IB3.out.below hbx.out)
        have HB4 := Lib.hid (HB3.out.trans (hbx.out.mono HB3.out.size))
        have HfL4 := Lib.hid (HfL.out.below hbx.out)
        have HrL4 := Lib.hid (fun i (hi : i < L.length) => (HrL.out i hi).below hbx.out)
        clear hDT hLT hbx hq ho q0 q1 q2 q3 qf' qz m0 m1 m2 m3 mf' mz HfL HrL HZ3 IF3 IA3 IB3 HB3
        obtain ⟨Q1, hQ1⟩ : ∃ Q : List Int → Bool, Q = metQ P k n DF A := ⟨_, rfl⟩
        obtain ⟨Q2, hQ2⟩ : ∃ Q : List Int → Bool, Q = metQ P k n LT B := ⟨_, rfl⟩
        have HQ1 := Lib.hid (show ∀ D, Q1 D = true ↔ MfUp P k n (mf n fun t => D.getD t 0) (mf n fun t => DF.getD t 0) A k from fun D => by rw [hQ1]; exact metQ_iff)
        have HQ2 := Lib.hid (show ∀ D, Q2 D = true ↔ MfUp P k n (mf n fun t => D.getD t 0) (mf n fun t => LT.getD t 0) B k from fun D => by rw [hQ2]; exact metQ_iff)
        have HC1 := Lib.hid (show (allS P k m).countP Q1 = wantS P k m A by rw [hQ1, Hnk.out]; exact HCC.out.count)
        have HC2 := Lib.hid (show (0 < (allS P k m).countP fun D => Q1 D && Q2 D) ↔ cnB (shL (duR B k n)) A = true by rw [hQ1, hQ2, HDT.out, Hnk.out]; have := HCC.out.both; rw [Hnk.out] at this; exact this)
        have HC3 := Lib.hid HCC.out.pos
        have HsT2 := Lib.hid (show IsFl P n n LT by rw [HDT.out]; exact HsT.out)
        clear hQ1 hQ2
        go_wp2_with fail
        go_loopg [10, 11, 12, 15, 16, 17, 18] L.length (fun g s10 s11 s12 s15 s16 s17 s18 wr => ∃ t : Nat, t ≤ L.length ∧ g = L.length - t ∧ s15 = .int .i64 t ∧ s10 = .int .i64 (wQ P k m L A t : Nat) ∧ s11 = .int .i64 (cQ P k m L Q1 t : Nat) ∧ s12 = .int .i64 (cQ P k m L (fun D => Q1 D && Q2 D) t : Nat) ∧ Hid (wQ P k m L A t ≤ t * 1000 ∧ cQ P k m L Q1 t ≤ t * 1000 ∧ cQ P k m L (fun D => Q1 D && Q2 D) t ≤ t * 1000) ∧ Hid (Below w4.heap.size w4 wr))
        case atStart => exact ⟨0, Nat.zero_le _, rfl, rfl, by rw [wQ_zero]; rfl, by rw [cQ_zero]; rfl, by rw [cQ_zero]; rfl, Lib.hid (by rw [wQ_zero, cQ_zero, cQ_zero]; omega), Lib.hid (Below.refl _ _)⟩
        case round =>
          obtain ⟨t, ht, rfl, rfl, rfl, rfl, rfl, htb, hb⟩ := hrel
          obtain ⟨w5, rfl⟩ : ∃ x : World, x = wr := ⟨_, rfl⟩
          obtain ⟨Wt, hWt⟩ : ∃ Wt, Wt = wQ P k m L A t := ⟨_, rfl⟩
          obtain ⟨Ct, hCt⟩ : ∃ Ct, Ct = cQ P k m L Q1 t := ⟨_, rfl⟩
          obtain ⟨Et, hEt⟩ : ∃ Et, Et = cQ P k m L (fun D => Q1 D && Q2 D) t := ⟨_, rfl⟩
          rw [← hWt, ← hCt, ← hEt] at htb
          rw [← hWt, ← hCt, ← hEt]
          have htb1 : Wt ≤ 1000000 := by have := htb.out.1; omega
          have htb2 : Ct ≤ 1000000 := by have := htb.out.2.1; omega
          have htb3 : Et ≤ 1000000 := by have := htb.out.2.2; omega
          have HWt := Lib.hid hWt
          have HCt := Lib.hid hCt
          have HEt := Lib.hid hEt
          clear hWt hCt hEt
          by_cases hlt : t < L.length
          · have hlti : (t : Int) < (L.length : Int) := by omega
            obtain ⟨sh, hsh⟩ : ∃ sh, sh = L.getD t [] := ⟨_, rfl⟩
            have hmem : sh ∈ shs k m [] := by
              rw [← HL.out, hsh, List.getD_eq_getElem?_getD, List.getElem?_eq_getElem hlt]
              exact List.getElem_mem hlt
            obtain ⟨ms, hms⟩ := scL HSm.out hmem
            have Hms := Lib.hid hms
            obtain ⟨x, hx⟩ : ∃ x : Nat, sumI sh = (x : Int) := ⟨(sumI sh).toNat, by have := hms.two.1; omega⟩
            have Hx := Lib.hid hx
            have hx4 : x ≤ k * m := by
              have a := hms.two.2
              rw [hx, show (k : Int) * (m : Int) = ((k * m : Nat) : Int) by simp] at a
              omega
            obtain ⟨f, hf⟩ : ∃ f, f = k * m - x := ⟨_, rfl⟩
            have hlen : ms.length = P ^ f := by
              rw [hms.len, hx, show (k : Int) * (m : Int) = ((k * m : Nat) : Int) by simp]
              congr 1
              omega
            have hfew := hms.few
            have Hlen := Lib.hid hlen
            have hf4 : f ≤ 4 := by have := Hs.out.2.2; omega
            have Hf := Lib.hid hf
            have Hx4 := Lib.hid hx4
            have hrow := HrL4.out t hlt
            rw [← hsh] at hrow
            have hrow2 := hrow
            obtain ⟨pr, kr, er, hkr, hkr2⟩ := hrow2
            rw [er] at hrow
            have hfLw := HfL4.out
            obtain ⟨_, _, e0, _, hc0⟩ := hfLw
            injection e0 with e1 e2 e3
            subst e1 e3
            obtain ⟨bL, oL, hpL, hcL⟩ := hc0 (by omega)
            subst hpL
            have d0 := hcL t hlt
            rw [er] at d0
            have d1 := cell_below hb.out d0
            obtain ⟨lr, hlr⟩ : ∃ lr, lr = sh.length := ⟨_, rfl⟩
            rw [← hlr] at d1 hrow
            have HI5 := Lib.hid (hrow.below hb.out)
            have Hsh := Lib.hid hsh
            have HD5 := Lib.hid d1
            have HZ5 := Lib.hid (blk_later HZ4.out hb.out)
            have HT5 := Lib.hid (blk_later HT4.out hb.out)
            have IA5 := Lib.hid (IA4.out.below hb.out)
            have HB5 := Lib.hid hb.out
            obtain ⟨S, hS⟩ : ∃ S, S = gsL sh k n := ⟨_, rfl⟩
            have HS := Lib.hid hS
            have Hbx := Lib.hid (show bxOk sh k n = true by have := hms.box; rwa [← Hnk.out] at this)
            have Hmss := Lib.hid (show spMs P S = (ms, true) by rw [hS, Hnk.out]; exact hms.mss)
            have Hsps := Lib.hid (show spsL P k m sh = ms.map Mx.D by unfold spsL; rw [hms.mss])
            obtain ⟨cb, hcb⟩ : ∃ cb, cb = cnB sh A := ⟨_, rfl⟩
            have Hcb := Lib.hid hcb
            have Hw1 := Lib.hid (show wQ P k m L A (t + 1) = Wt + if cb then ms.length else 0 by
              rw [wQ_succ hlt, ← HWt.out, ← hsh, ← hcb, ← hms.len])
            have Hc1 := Lib.hid (show cQ P k m L Q1 (t + 1) = Ct + cI ms Q1 ms.length by
              rw [cQ_succ hlt, ← HCt.out, ← hsh, cI_all]
              unfold spsL
              rw [hms.mss])
            have Hc2 := Lib.hid (show cQ P k m L (fun D => Q1 D && Q2 D) (t + 1) = Et + cI ms (fun D => Q1 D && Q2 D) ms.length by
              rw [cQ_succ hlt, ← HEt.out, ← hsh, cI_all]
              unfold spsL
              rw [hms.mss])
            clear hmem hms hx hx4 hf hlen hrow er d0 hcL hc0 e2 hlr hsh hS hb hcb hkr
            go_wp2_with fail
            refine (cns1 _ _ sh A cb Hcb.out.symm _ HI5.out IA5.out).mono ?_
            rintro e w6 ⟨rfl, hb6⟩
            have HI6 := Lib.hid (HI5.out.below hb6)
            have HD6 := Lib.hid (cell_below hb6 HD5.out)
            have HZ6 := Lib.hid (blk_later HZ5.out hb6)
            have HT6 := Lib.hid (blk_later HT5.out hb6)
            have HB6 := Lib.hid (HB5.out.trans (hb6.mono HB5.out.size))
            clear hb6 HI5 HZ5 HT5 IA5 HB5 HD5 d1
            obtain ⟨K, hK, HK1, HK2⟩ := mul_hid k m (by have := Hs.out.2.2; omega)
            have hKx : K = f + x := by have a := Hf.out; have b := Hx4.out; omega
            have Hkx := Lib.hid (show (K : Int) - (x : Int) = (f : Int) by omega)
            have hK4 : K ≤ 4 := by have := Hs.out.2.2; omega
            have hxK : (x : Int) ≤ (K : Int) := by omega
            clear hK hKx
            cases cb with
            | true =>
              have d6 := HD6.out
              have h3 := HK1.out
              have h4 := HK2.out
              have h5 := Hnki.out
              go_wp2_with fail
              clear h3 h4 h5
              refine (sum1 _ sh x Hx.out Hms.out.sum _ HI6.out).mono ?_
              rintro e w7 ⟨rfl, hb7⟩
              have HI7 := Lib.hid (HI6.out.below hb7)
              have HD7 := Lib.hid (cell_below hb7 HD6.out)
              have HZ7 := Lib.hid (blk_later HZ6.out hb7)
              have HT7 := Lib.hid (blk_later HT6.out hb7)
              have HB7 := Lib.hid (HB6.out.trans (hb7.mono HB6.out.size))
              clear hb7 d6 HI6 HZ6 HT6 HB6 HD6
              have hkx := Hkx.out
              go_wp2_with fail
              clear hkx
              refine (power_any P f ms.length _ Hlen.out hP2 (by omega) (by rw [← Hlen.out]; omega)).mono ?_
              rintro e w8 ⟨rfl, rfl⟩
              have d7 := HD7.out
              obtain ⟨m0, m1, m2, m3, mf', mz⟩ := blk4 HZ7.out
              go_wp2_with fail
              refine (strsh1 _ sh S k n HS.out _ HI7.out Hbx.out hkn hk1 hn7).mono ?_
              rintro e w8 ⟨pS', kS', rfl, hiS, hb8⟩
              have HZ8 := Lib.hid (blk_later HZ7.out hb8)
              have HT8 := Lib.hid (blk_later HT7.out hb8)
              have HB8 := Lib.hid (HB7.out.trans (hb8.mono HB7.out.size))
              have HIS8 := Lib.hid hiS
              clear hiS hb8 d7 m0 m1 m2 m3 mf' mz
              go_wp2_with fail
              refine (spw1 P _ S ms Hmss.out _ HIS8.out).mono ?_
              rintro e w9 ⟨pM, kM, rfl, hrm, hkM, hb9⟩
              unfold maxLen at hkM
              obtain ⟨fM, hsM, hfM⟩ := hrm
              have HfM := Lib.hid hfM
              have HZ9 := Lib.hid (blk_later HZ8.out hb9)
              have HT9 := Lib.hid (blk_later HT8.out hb9)
              have HB9 := Lib.hid (HB8.out.trans (hb9.mono HB8.out.size))
              obtain ⟨pM', kM', eM, -, hxc⟩ := hsM.four
              injection eM with eM1 _ eM2
              subst eM1 eM2
              have Hxc := Lib.hid hxc
              have IA9 := Lib.hid (IA4.out.below HB9.out)
              have IB9 := Lib.hid (IB4.out.below HB9.out)
              have IF9 := Lib.hid (IF4.out.below HB9.out)
              have IT9 := Lib.hid (IT4.out.below HB9.out)
              clear hb9 hfM hsM hxc HIS8 HZ8 HT8 HB8
              go_wp2_with fail
              go_loopg [11, 12, 18] ms.length (fun g s11 s12 s18 wr => ∃ j : Nat, j ≤ ms.length ∧ g = ms.length - j ∧ s18 = .int .i64 j ∧ s11 = .int .i64 (Ct + cI ms Q1 j : Nat) ∧ s12 = .int .i64 (Et + cI ms (fun D => Q1 D && Q2 D) j : Nat) ∧ Hid (Below w9.heap.size w9 wr))
              case atStart => exact ⟨0, Nat.zero_le _, rfl, rfl, by rw [cI_zero]; rfl, by rw [cI_zero]; rfl, Lib.hid (Below.refl _ _)⟩
              case round =>
                obtain ⟨j, hj, rfl, rfl, rfl, rfl, Hb⟩ := hrel
                obtain ⟨wo, rfl⟩ : ∃ x : World, x = wr := ⟨_, rfl⟩
                obtain ⟨C1, hC1⟩ : ∃ C1, C1 = Ct + cI ms Q1 j := ⟨_, rfl⟩
                obtain ⟨E1, hE1⟩ : ∃ E1, E1 = Et + cI ms (fun D => Q1 D && Q2 D) j := ⟨_, rfl⟩
                have hC1b : C1 ≤ 1001000 := by have := cI_le ms Q1 j; omega
                have hE1b : E1 ≤ 1001000 := by have := cI_le ms (fun D => Q1 D && Q2 D) j; omega
                rw [← hC1, ← hE1]
                have HC1' := Lib.hid hC1
                have HE1' := Lib.hid hE1
                clear hC1 hE1
                by_cases hjl : j < ms.length
                · have hji : (j : Int) < (ms.length : Int) := by omega
                  obtain ⟨b, rfl, hc⟩ := Hxc.out (by omega)
                  obtain ⟨a0, a1, a2, a3⟩ := hc j hjl
                  obtain ⟨D, hD', hsp', -⟩ := Hms.out.each j hjl
                  have hDD : (ms.getD j mxZero).D = D := by rw [hD']
                  rw [← Hnk.out] at hD' hsp'
                  have hI := HfM.out j hjl
                  rw [hD'] at a0 a1 a2 hI
                  dsimp only at a0 a1 a2 hI
                  have hI2 := hI
                  obtain ⟨q1, k1, e1, _, _⟩ := hI2
                  rw [e1] at a3 hI
                  have c0 := cell_below Hb.out a0
                  have c1 := cell_below Hb.out a1
                  have c2 := cell_below Hb.out a2
                  have c3 := cell_below Hb.out a3
                  have ID := Lib.hid (hI.below Hb.out)
                  have IA := Lib.hid (IA9.out.below Hb.out)
                  have IB := Lib.hid (IB9.out.below Hb.out)
                  have IF := Lib.hid (IF9.out.below Hb.out)
                  have IT := Lib.hid (IT9.out.below Hb.out)
                  have Hsp := Lib.hid hsp'
                  have HZo := Lib.hid (blk_later HZ9.out Hb.out)
                  have HTo := Lib.hid (blk_later HT9.out Hb.out)
                  obtain ⟨g1, hg1⟩ : ∃ g1, g1 = Q1 D := ⟨_, rfl⟩
                  obtain ⟨g2, hg2⟩ : ∃ g2, g2 = Q2 D := ⟨_, rfl⟩
                  have Hg1 := Lib.hid (show g1 = true ↔ MfUp P k n (mf n fun t => D.getD t 0) (mf n fun t => DF.getD t 0) A k by rw [hg1]; exact HQ1.out D)
                  have Hg2 := Lib.hid (show g2 = true ↔ MfUp P k n (mf n fun t => D.getD t 0) (mf n fun t => LT.getD t 0) B k by rw [hg2]; exact HQ2.out D)
                  have Hn1 := Lib.hid (show Ct + cI ms Q1 (j + 1) = C1 + if g1 then 1 else 0 by rw [cI_succ hjl, hDD, ← hg1, HC1'.out]; omega)
                  have Hn2 := Lib.hid (show Et + cI ms (fun D => Q1 D && Q2 D) (j + 1) = E1 + if g1 && g2 then 1 else 0 by rw [cI_succ hjl, hDD, ← hg1, ← hg2, HE1'.out]; omega)
                  clear hc a0 a1 a2 a3 hD' hsp' hI e1 hDD hg1 hg2
                  obtain ⟨m0, m1, m2, m3, mf', mz⟩ := blk4 HZo.out
                  obtain ⟨n0, n1, n2, n3, nf', nz⟩ := blk4 HTo.out
                  go_wp2_with fail
                  go_region_held3 (fun w' => (w'.cell? ⟨b, j * 4, none⟩ = some (.int .i64 (P : Int)) ∧ w'.cell? ⟨b, j * 4 + 1, none⟩ = some (.int .i64 (k : Int)) ∧ w'.cell? ⟨b, j * 4 + 2, none⟩ = some (.int .i64 (n : Int)) ∧ w'.cell? ⟨b, j * 4 + 3, none⟩ = some (.slice q1 D.length k1) ∧ w'.cell? ⟨w1.heap.size, 0, none⟩ = some (.int .i64 (P : Int)) ∧ w'.cell? ⟨w1.heap.size, 1, none⟩ = some (.int .i64 (n : Int)) ∧ w'.cell? ⟨w1.heap.size, 2, none⟩ = some (.int .i64 (n : Int)) ∧ w'.cell? ⟨w1.heap.size, 3, none⟩ = some (.slice pF DF.length kF)) ∧ Below wo.heap.size wo w')
                    (first | assumption | exact ⟨⟨c0, c1, c2, c3, m0, m1, m2, m3⟩, (Below.refl _ _).drew⟩ | exact keep8c hb1 (by assumption))
                    (first | (go_at_call 29; refine (mfq1 P k n _ _ _ D DF A g1 ⟨Hsp.out, HsF.out, rfl, rfl⟩ HbA.out Hg1.out _ (held_ints ID.out (by assumption)) (held_ints IF.out (by assumption)) (held_ints IA.out (by assumption))).mono ?_; rintro e w' ⟨rfl, hb1⟩; have hBz : Below wo.heap.size wo w' := below_trans (held_below (by assumption)) hb1))
                  obtain ⟨wq, hwq⟩ : ∃ x : World, x = w' := ⟨_, rfl⟩
                  rw [← hwq] at hBz ⊢
                  have c0' := cell_below hBz c0
                  have c1' := cell_below hBz c1
                  have c2' := cell_below hBz c2
                  have c3' := cell_below hBz c3
                  have IDq := Lib.hid (ID.out.below hBz)
                  have IBq := Lib.hid (IB.out.below hBz)
                  have ITq := Lib.hid (IT.out.below hBz)
                  have HTq := Lib.hid (blk_later HTo.out hBz)
                  have Hbq := Lib.hid (Hb.out.trans (hBz.mono Hb.out.size))
                  clear hwq hBz hb1 c0 c1 c2 c3 m0 m1 m2 m3 mf' mz n0 n1 n2 n3 nf' nz ID IA IB IF IT HZo HTo
                  cases g1 with
                  | false =>
                    go_wp2_with fail
                    go_roundg (ms.length - (j + 1))
                    case measure => omega
                    case rel => exact ⟨j + 1, by omega, rfl, by go_num, by rw [Hn1.out]; rfl, by rw [Hn2.out]; rfl, Hbq⟩
                  | true =>
                    obtain ⟨n0, n1, n2, n3, nf', nz⟩ := blk4 HTq.out
                    go_wp2_with fail
                    go_region_held3 (fun w' => (w'.cell? ⟨b, j * 4, none⟩ = some (.int .i64 (P : Int)) ∧ w'.cell? ⟨b, j * 4 + 1, none⟩ = some (.int .i64 (k : Int)) ∧ w'.cell? ⟨b, j * 4 + 2, none⟩ = some (.int .i64 (n : Int)) ∧ w'.cell? ⟨b, j * 4 + 3, none⟩ = some (.slice q1 D.length k1) ∧ w'.cell? ⟨w3.heap.size + 1, 0, none⟩ = some (.int .i64 (P : Int)) ∧ w'.cell? ⟨w3.heap.size + 1, 1, none⟩ = some (.int .i64 (n : Int)) ∧ w'.cell? ⟨w3.heap.size + 1, 2, none⟩ = some (.int .i64 (n : Int)) ∧ w'.cell? ⟨w3.heap.size + 1, 3, none⟩ = some (.slice pS LT.length kS)) ∧ Below wq.heap.size wq w')
                      (first | assumption | exact ⟨⟨c0', c1', c2', c3', n0, n1, n2, n3⟩, (Below.refl _ _).drew⟩ | exact keep8c hb1 (by assumption))
                      (first | (go_at_call 29; refine (mfq1 P k n _ _ _ D LT B g2 ⟨Hsp.out, HsT2.out, rfl, rfl⟩ HbB.out Hg2.out _ (held_ints IDq.out (by assumption)) (held_ints ITq.out (by assumption)) (held_ints IBq.out (by assumption))).mono ?_; rintro e w' ⟨rfl, hb1⟩; have hBz : Below wq.heap.size wq w' := below_trans (held_below (by assumption)) hb1))
                    have HbZ := Lib.hid (Hbq.out.trans (hBz.mono Hbq.out.size))
                    clear hBz hb1 c0' c1' c2' c3' n0 n1 n2 n3 nf' nz IDq IBq ITq HTq
                    cases g2 with
                    | false =>
                      go_wp2_with fail
                      go_roundg (ms.length - (j + 1))
                      case measure => omega
                      case rel => exact ⟨j + 1, by omega, rfl, by go_num, by rw [Hn1.out]; go_num, by rw [Hn2.out]; rfl, HbZ⟩
                    | true =>
                      go_wp2_with fail
                      go_roundg (ms.length - (j + 1))
                      case measure => omega
                      case rel => exact ⟨j + 1, by omega, rfl, by go_num, by rw [Hn1.out]; go_num, by rw [Hn2.out]; go_num, HbZ⟩
                · obtain rfl : ms.length = j := by omega
                  have hji : ¬ (ms.length : Int) < (ms.length : Int) := by omega
                  have hcb1 := cI_le ms Q1 ms.length
                  have hcb2 := cI_le ms (fun D => Q1 D && Q2 D) ms.length
                  have htb9 := htb.out
                  go_wp2_with fail
                  go_roundg (L.length - (t + 1))
                  case measure => omega
                  case rel => exact ⟨t + 1, by omega, rfl, by go_num, by rw [Hw1.out]; go_num, by rw [Hc1.out, ← HC1'.out], by rw [Hc2.out, ← HE1'.out], Lib.hid (by rw [Hw1.out, Hc1.out, Hc2.out]; refine ⟨?_, ?_, ?_⟩ <;> (try split) <;> omega), Lib.hid (HB9.out.trans (Hb.out.mono HB9.out.size))⟩
            | false =>
              obtain ⟨w7, rfl⟩ : ∃ x : World, x = w6 := ⟨_, rfl⟩
              have HI7 := HI6
              have HD7 := HD6
              have HZ7 := HZ6
              have HT7 := HT6
              have HB7 := HB6
              clear HI6 HD6 HZ6 HT6 HB6
              have d7 := HD7.out
              obtain ⟨m0, m1, m2, m3, mf', mz⟩ := blk4 HZ7.out
              go_wp2_with fail
              refine (strsh1 _ sh S k n HS.out _ HI7.out Hbx.out hkn hk1 hn7).mono ?_
              rintro e w8 ⟨pS', kS', rfl, hiS, hb8⟩
              have HZ8 := Lib.hid (blk_later HZ7.out hb8)
              have HT8 := Lib.hid (blk_later HT7.out hb8)
              have HB8 := Lib.hid (HB7.out.trans (hb8.mono HB7.out.size))
              have HIS8 := Lib.hid hiS
              clear hiS hb8 d7 m0 m1 m2 m3 mf' mz
              go_wp2_with fail
              refine (spw1 P _ S ms Hmss.out _ HIS8.out).mono ?_
              rintro e w9 ⟨pM, kM, rfl, hrm, hkM, hb9⟩
              unfold maxLen at hkM
              obtain ⟨fM, hsM, hfM⟩ := hrm
              have HfM := Lib.hid hfM
              have HZ9 := Lib.hid (blk_later HZ8.out hb9)
              have HT9 := Lib.hid (blk_later HT8.out hb9)
              have HB9 := Lib.hid (HB8.out.trans (hb9.mono HB8.out.size))
              obtain ⟨pM', kM', eM, -, hxc⟩ := hsM.four
              injection eM with eM1 _ eM2
              subst eM1 eM2
              have Hxc := Lib.hid hxc
              have IA9 := Lib.hid (IA4.out.below HB9.out)
              have IB9 := Lib.hid (IB4.out.below HB9.out)
              have IF9 := Lib.hid (IF4.out.below HB9.out)
              have IT9 := Lib.hid (IT4.out.below HB9.out)
              clear hb9 hfM hsM hxc HIS8 HZ8 HT8 HB8
              go_wp2_with fail
              go_loopg [11, 12, 18] ms.length (fun g s11 s12 s18 wr => ∃ j : Nat, j ≤ ms.length ∧ g = ms.length - j ∧ s18 = .int .i64 j ∧ s11 = .int .i64 (Ct + cI ms Q1 j : Nat) ∧ s12 = .int .i64 (Et + cI ms (fun D => Q1 D && Q2 D) j : Nat) ∧ Hid (Below w9.heap.size w9 wr))
              case atStart => exact ⟨0, Nat.zero_le _, rfl, rfl, by rw [cI_zero]; rfl, by rw [cI_zero]; rfl, Lib.hid (Below.refl _ _)⟩
              case round =>
                obtain ⟨j, hj, rfl, rfl, rfl, rfl, Hb⟩ := hrel
                obtain ⟨wo, rfl⟩ : ∃ x : World, x = wr := ⟨_, rfl⟩
                obtain ⟨C1, hC1⟩ : ∃ C1, C1 = Ct + cI ms Q1 j := ⟨_, rfl⟩
                obtain ⟨E1, hE1⟩ : ∃ E1, E1 = Et + cI ms (fun D => Q1 D && Q2 D) j := ⟨_, rfl⟩
                have hC1b : C1 ≤ 1001000 := by have := cI_le ms Q1 j; omega
                have hE1b : E1 ≤ 1001000 := by have := cI_le ms (fun D => Q1 D && Q2 D) j; omega
                rw [← hC1, ← hE1]
                have HC1' := Lib.hid hC1
                have HE1' := Lib.hid hE1
                clear hC1 hE1
                by_cases hjl : j < ms.length
                · have hji : (j : Int) < (ms.length : Int) := by omega
                  obtain ⟨b, rfl, hc⟩ := Hxc.out (by omega)
                  obtain ⟨a0, a1, a2, a3⟩ := hc j hjl
                  obtain ⟨D, hD', hsp', -⟩ := Hms.out.each j hjl
                  have hDD : (ms.getD j mxZero).D = D := by rw [hD']
                  rw [← Hnk.out] at hD' hsp'
                  have hI := HfM.out j hjl
                  rw [hD'] at a0 a1 a2 hI
                  dsimp only at a0 a1 a2 hI
                  have hI2 := hI
                  obtain ⟨q1, k1, e1, _, _⟩ := hI2
                  rw [e1] at a3 hI
                  have c0 := cell_below Hb.out a0
                  have c1 := cell_below Hb.out a1
                  have c2 := cell_below Hb.out a2
                  have c3 := cell_below Hb.out a3
                  have ID := Lib.hid (hI.below Hb.out)
                  have IA := Lib.hid (IA9.out.below Hb.out)
                  have IB := Lib.hid (IB9.out.below Hb.out)
                  have IF := Lib.hid (IF9.out.below Hb.out)
                  have IT := Lib.hid (IT9.out.below Hb.out)
                  have Hsp := Lib.hid hsp'
                  have HZo := Lib.hid (blk_later HZ9.out Hb.out)
                  have HTo := Lib.hid (blk_later HT9.out Hb.out)
                  obtain ⟨g1, hg1⟩ : ∃ g1, g1 = Q1 D := ⟨_, rfl⟩
                  obtain ⟨g2, hg2⟩ : ∃ g2, g2 = Q2 D := ⟨_, rfl⟩
                  have Hg1 := Lib.hid (show g1 = true ↔ MfUp P k n (mf n fun t => D.getD t 0) (mf n fun t => DF.getD t 0) A k by rw [hg1]; exact HQ1.out D)
                  have Hg2 := Lib.hid (show g2 = true ↔ MfUp P k n (mf n fun t => D.getD t 0) (mf n fun t => LT.getD t 0) B k by rw [hg2]; exact HQ2.out D)
                  have Hn1 := Lib.hid (show Ct + cI ms Q1 (j + 1) = C1 + if g1 then 1 else 0 by rw [cI_succ hjl, hDD, ← hg1, HC1'.out]; omega)
                  have Hn2 := Lib.hid (show Et + cI ms (fun D => Q1 D && Q2 D) (j + 1) = E1 + if g1 && g2 then 1 else 0 by rw [cI_succ hjl, hDD, ← hg1, ← hg2, HE1'.out]; omega)
                  clear hc a0 a1 a2 a3 hD' hsp' hI e1 hDD hg1 hg2
                  obtain ⟨m0, m1, m2, m3, mf', mz⟩ := blk4 HZo.out
                  obtain ⟨n0, n1, n2, n3, nf', nz⟩ := blk4 HTo.out
                  go_wp2_with fail
                  go_region_held3 (fun w' => (w'.cell? ⟨b, j * 4, none⟩ = some (.int .i64 (P : Int)) ∧ w'.cell? ⟨b, j * 4 + 1, none⟩ = some (.int .i64 (k : Int)) ∧ w'.cell? ⟨b, j * 4 + 2, none⟩ = some (.int .i64 (n : Int)) ∧ w'.cell? ⟨b, j * 4 + 3, none⟩ = some (.slice q1 D.length k1) ∧ w'.cell? ⟨w1.heap.size, 0, none⟩ = some (.int .i64 (P : Int)) ∧ w'.cell? ⟨w1.heap.size, 1, none⟩ = some (.int .i64 (n : Int)) ∧ w'.cell? ⟨w1.heap.size, 2, none⟩ = some (.int .i64 (n : Int)) ∧ w'.cell? ⟨w1.heap.size, 3, none⟩ = some (.slice pF DF.length kF)) ∧ Below wo.heap.size wo w')
                    (first | assumption | exact ⟨⟨c0, c1, c2, c3, m0, m1, m2, m3⟩, (Below.refl _ _).drew⟩ | exact keep8c hb1 (by assumption))
                    (first | (go_at_call 29; refine (mfq1 P k n _ _ _ D DF A g1 ⟨Hsp.out, HsF.out, rfl, rfl⟩ HbA.out Hg1.out _ (held_ints ID.out (by assumption)) (held_ints IF.out (by assumption)) (held_ints IA.out (by assumption))).mono ?_; rintro e w' ⟨rfl, hb1⟩; have hBz : Below wo.heap.size wo w' := below_trans (held_below (by assumption)) hb1))
                  obtain ⟨wq, hwq⟩ : ∃ x : World, x = w' := ⟨_, rfl⟩
                  rw [← hwq] at hBz ⊢
                  have c0' := cell_below hBz c0
                  have c1' := cell_below hBz c1
                  have c2' := cell_below hBz c2
                  have c3' := cell_below hBz c3
                  have IDq := Lib.hid (ID.out.below hBz)
                  have IBq := Lib.hid (IB.out.below hBz)
                  have ITq := Lib.hid (IT.out.below hBz)
                  have HTq := Lib.hid (blk_later HTo.out hBz)
                  have Hbq := Lib.hid (Hb.out.trans (hBz.mono Hb.out.size))
                  clear hwq hBz hb1 c0 c1 c2 c3 m0 m1 m2 m3 mf' mz n0 n1 n2 n3 nf' nz ID IA IB IF IT HZo HTo
                  cases g1 with
                  | false =>
                    go_wp2_with fail
                    go_roundg (ms.length - (j + 1))
                    case measure => omega
                    case rel => exact ⟨j + 1, by omega, rfl, by go_num, by rw [Hn1.out]; rfl, by rw [Hn2.out]; rfl, Hbq⟩
                  | true =>
                    obtain ⟨n0, n1, n2, n3, nf', nz⟩ := blk4 HTq.out
                    go_wp2_with fail
                    go_region_held3 (fun w' => (w'.cell? ⟨b, j * 4, none⟩ = some (.int .i64 (P : Int)) ∧ w'.cell? ⟨b, j * 4 + 1, none⟩ = some (.int .i64 (k : Int)) ∧ w'.cell? ⟨b, j * 4 + 2, none⟩ = some (.int .i64 (n : Int)) ∧ w'.cell? ⟨b, j * 4 + 3, none⟩ = some (.slice q1 D.length k1) ∧ w'.cell? ⟨w3.heap.size + 1, 0, none⟩ = some (.int .i64 (P : Int)) ∧ w'.cell? ⟨w3.heap.size + 1, 1, none⟩ = some (.int .i64 (n : Int)) ∧ w'.cell? ⟨w3.heap.size + 1, 2, none⟩ = some (.int .i64 (n : Int)) ∧ w'.cell? ⟨w3.heap.size + 1, 3, none⟩ = some (.slice pS LT.length kS)) ∧ Below wq.heap.size wq w')
                      (first | assumption | exact ⟨⟨c0', c1', c2', c3', n0, n1, n2, n3⟩, (Below.refl _ _).drew⟩ | exact keep8c hb1 (by assumption))
                      (first | (go_at_call 29; refine (mfq1 P k n _ _ _ D LT B g2 ⟨Hsp.out, HsT2.out, rfl, rfl⟩ HbB.out Hg2.out _ (held_ints IDq.out (by assumption)) (held_ints ITq.out (by assumption)) (held_ints IBq.out (by assumption))).mono ?_; rintro e w' ⟨rfl, hb1⟩; have hBz : Below wq.heap.size wq w' := below_trans (held_below (by assumption)) hb1))
                    have HbZ := Lib.hid (Hbq.out.trans (hBz.mono Hbq.out.size))
                    clear hBz hb1 c0' c1' c2' c3' n0 n1 n2 n3 nf' nz IDq IBq ITq HTq
                    cases g2 with
                    | false =>
                      go_wp2_with fail
                      go_roundg (ms.length - (j + 1))
                      case measure => omega
                      case rel => exact ⟨j + 1, by omega, rfl, by go_num, by rw [Hn1.out]; go_num, by rw [Hn2.out]; rfl, HbZ⟩
                    | true =>
                      go_wp2_with fail
                      go_roundg (ms.length - (j + 1))
                      case measure => omega
                      case rel => exact ⟨j + 1, by omega, rfl, by go_num, by rw [Hn1.out]; go_num, by rw [Hn2.out]; go_num, HbZ⟩
                · obtain rfl : ms.length = j := by omega
                  have hji : ¬ (ms.length : Int) < (ms.length : Int) := by omega
                  have hcb1 := cI_le ms Q1 ms.length
                  have hcb2 := cI_le ms (fun D => Q1 D && Q2 D) ms.length
                  have htb9 := htb.out
                  go_wp2_with fail
                  go_roundg (L.length - (t + 1))
                  case measure => omega
                  case rel => exact ⟨t + 1, by omega, rfl, by go_num, by rw [Hw1.out]; rfl, by rw [Hc1.out, ← HC1'.out], by rw [Hc2.out, ← HE1'.out], Lib.hid (by rw [Hw1.out, Hc1.out, Hc2.out]; refine ⟨?_, ?_, ?_⟩ <;> (try split) <;> omega), Lib.hid (HB9.out.trans (Hb.out.mono HB9.out.size))⟩
          · obtain rfl : L.length = t := by omega
            have hlti : ¬ (L.length : Int) < (L.length : Int) := by omega
            have hce : Ct = Wt := by
              rw [HCt.out, HWt.out]
              unfold cQ wQ
              rw [List.take_length, HL.out]
              exact HC1.out
            have hcp : 0 < Wt := by
              rw [HWt.out]
              unfold wQ
              rw [List.take_length, HL.out]
              exact HC3.out
            have hee : 0 < Et ↔ cnB (shL (duR B k n)) A = true := by
              rw [HEt.out]
              unfold cQ
              rw [List.take_length, HL.out]
              exact HC2.out
            subst hce
            have hcpi : (0 : Int) < (Ct : Int) := by omega
            have Hee := Lib.hid hee
            have IA5 := Lib.hid (IA4.out.below hb.out)
            have IB5 := Lib.hid (IB4.out.below hb.out)
            clear hee HWt HCt HEt
            by_cases he0 : 0 < Et
            · have he0i : (0 : Int) < (Et : Int) := by omega
              go_wp2_with fail
              refine (DualShape_any _ B k n _ IB5.out HbB.out hkn hn1 hn7 (bx_facts HbB.out hkn)).mono ?_
              rintro e w6 ⟨ud, rfl, hid, hb6⟩
              have Hid1 := Lib.hid hid
              obtain ⟨pd, kd, rfl, _, _⟩ := hid
              go_wp2_with fail
              refine (cns1 _ _ _ A true (Hee.out.1 he0) _ Hid1.out (IA5.out.below hb6)).mono ?_
              rintro e w7 ⟨rfl, hb7⟩
              go_wp2_with fail
              go_ret
              exact ⟨rfl, HB4.out.trans ((hb.out.trans ((hb6.trans (hb7.mono hb6.size)).mono hb.out.size)).mono HB4.out.size)⟩
            · have he0i : ¬ (0 : Int) < (Et : Int) := by omega
              have hcf : cnB (shL (duR B k n)) A = false := by
                cases hc : cnB (shL (duR B k n)) A with
                | false => rfl
                | true => exact absurd (Hee.out.2 hc) he0
              have Hcf := Lib.hid hcf
              clear hcf
              go_wp2_with fail
              refine (DualShape_any _ B k n _ IB5.out HbB.out hkn hn1 hn7 (bx_facts HbB.out hkn)).mono ?_
              rintro e w6 ⟨ud, rfl, hid, hb6⟩
              have Hid1 := Lib.hid hid
              obtain ⟨pd, kd, rfl, _, _⟩ := hid
              go_wp2_with fail
              refine (cns1 _ _ _ A false Hcf.out _ Hid1.out (IA5.out.below hb6)).mono ?_
              rintro e w7 ⟨rfl, hb7⟩
              go_wp2_with fail
              go_ret
              exact ⟨rfl, HB4.out.trans ((hb.out.trans ((hb6.trans (hb7.mono hb6.size)).mono hb.out.size)).mono HB4.out.size)⟩

end Go.Proofs.Ytoodgbflaaabmaa
