/-
  What two lists of rows have in common: slices.Clone of rows, impl.common, spec.l7Common.
-/
import Derived.Test.YtapmnfakjnhlbaaSum
namespace Go.Proofs.Ytapmnfakjnhlbaa
set_option linter.all false
open Go.RowKit

set_option maxRecDepth 100000 in
set_option maxHeartbeats 400000 in
theorem cloneRows_any (v : Value) (n : Nat) (f : Nat → Value) (w : World) (h : Rd w v n f) (h1 : ∀ j, j < n → (f j).oneCell' = true) (hl : n ≤ 1000) :
    Calls Try.prog 69 #[v] w fun e w' => ∃ u, e = .returned u ∧ OwnF w' w.heap.size w'.heap.size 22 u n f ∧ Below w.heap.size w w' := by
  have hI := Lib.hid h
  have H1 := Lib.hid h1
  obtain ⟨p, cap, rfl, ⟨hx1, hx2⟩, hxc⟩ := h
  have keq := fun (n c : Nat) => Lib.run_eql_slice_nil (P := Try.prog) w 43 22 p n c 0 0 Try.underlying43
  cases p with
  | none =>
    have hx0 : n = 0 := by
      rcases Nat.eq_zero_or_pos n with h0 | h0
      · exact h0
      · obtain ⟨b, off, e, _⟩ := hxc h0; cases e
    subst hx0
    clear hxc hI
    go_enter Try.func69, Try.ntmps69
    go_wp2_with fail
    go_ret
    exact ⟨_, rfl, OwnF.nil _ _ _ _ _, Below.refl _ _⟩
  | some a =>
    have Hb1 := Lib.hid (show 0 + n ≤ maxLen by unfold maxLen; omega)
    have Hb2 := Lib.hid (show (0 + n) * 24 ≤ 140737488355328 by omega)
    clear hxc h1
    go_enter Try.func69, Try.ntmps69
    go_wp2_with (at_builtin; go_must (refine wpList_append_F rfl (.tmp 5) (.tmp 6) 43 rfl 22 (.slice none 0 0) 24 Try.underlying43 info_sl rfl w.heap.size (w.heap.size + 1) _ 0 (fun _ => undef) rfl (OwnF.made0 w _ _) (by simp) (by simp) _ _ _ rfl (hI.out.below (below_alloc w _)) H1.out Hb1.out Hb2.out ?_; intro v' w' ho' hg'))
    go_ret
    refine ⟨_, rfl, ?_, (below_alloc w _).trans (grownBy_below hg' (OwnF.made0 w 22 (fun _ => undef)).blocks (Nat.le_refl _) (by simp))⟩
    rw [Nat.zero_add] at ho'
    exact ho'.congr fun j _ => by simp

/-- rows that can be read, one list behind another one -/
theorem rdII_join {T : TypeId} {w : World} {lo hi : Nat} {v : Value} {a b : List (List Int)} {f g : Nat → Value} (h : OwnF w lo hi T v (a.length + b.length) (fun j => if j < a.length then f j else g (j - a.length)))
    (hf : ∀ i, i < a.length → Ints w (f i) (a.getD i [])) (hg : ∀ i, i < b.length → Ints w (g i) (b.getD i [])) : RdII w v (a ++ b) := by
  refine ⟨_, by rw [List.length_append]; exact h.rd, fun i hi => ?_⟩
  rw [List.length_append] at hi
  by_cases e : i < a.length
  · simp only [e, if_true]
    rw [show (a ++ b).getD i [] = a.getD i [] by simp [List.getD_eq_getElem?_getD, List.getElem?_append_left e]]
    exact hf i e
  · simp only [e, if_false]
    rw [show (a ++ b).getD i [] = b.getD (i - a.length) [] by simp [List.getD_eq_getElem?_getD, List.getElem?_append_right (Nat.le_of_not_lt e)]]
    exact hg _ (by omega)
theorem Ints.one {w : World} {v : Value} {xs : List Int} (h : Ints w v xs) : v.oneCell' = true := by
  obtain ⟨p, cap, rfl, _⟩ := h
  rfl
theorem Ints.grown {T : TypeId} {w w' : World} {lo hi n : Nat} {v u : Value} {f : Nat → Value} {xs : List Int} {B : Nat} (h : Ints w u xs) (hb : Below B w w') (hu : ∀ b, (∃ n c o, u = .slice (some ⟨b, o, none⟩) n c) → b < B) : Ints w' u xs := by
  obtain ⟨p, cap, rfl, hm, hc⟩ := h
  refine ⟨p, cap, rfl, hm, fun h0 => ?_⟩
  obtain ⟨b, off, rfl, hx⟩ := hc h0
  exact ⟨b, off, rfl, fun j hj => by
    have := hx j hj
    rw [hb.cell (hu b ⟨_, _, _, rfl⟩)]
    exact this⟩
/-- behind what changed from B on: rows that lay below B -/
theorem Ints.up {w0 w w' : World} {u : Value} {xs : List Int} (h : Ints w0 u xs) (hb : Below w0.heap.size w0 w') : Ints w' u xs := h.below hb

set_option maxRecDepth 100000 in
set_option maxHeartbeats 1000000 in
theorem common_any (P : Int) (C : Nat) (u v : Value) (A B : List (List Int)) (w : World) (hu : RdII w u A) (hv : RdII w v B) (hA : RowsOk P C A) (hB : RowsOk P C B) (hp : primeOk P = true) (hlA : A.length ≤ 40) (hlB : B.length ≤ 40) (hC : C ≤ 100) :
    Calls Try.prog 44 #[u, v, .int .i64 P] w fun e w' => ∃ n : Nat, e = .returned (.int .i64 ((A.length : Int) + (B.length : Int) - (n : Int))) ∧ HasRank P C (A.length + B.length) (mt (A ++ B)) n ∧ Below w.heap.size w w' := by
  obtain ⟨f, hf, hfi⟩ := hu
  obtain ⟨g, hg, hgi⟩ := hv
  obtain ⟨NA, hNA⟩ : ∃ n, n = A.length := ⟨_, rfl⟩
  obtain ⟨NB, hNB⟩ : ∃ n, n = B.length := ⟨_, rfl⟩
  rw [← hNA, ← hNB]
  rw [← hNA] at hf hfi hlA
  rw [← hNB] at hg hgi hlB
  have Hf := Lib.hid hf
  have Hg := Lib.hid hg
  have Hfi := Lib.hid hfi
  have Hgi := Lib.hid hgi
  have HA := Lib.hid hA
  have HB := Lib.hid hB
  have Hp := Lib.hid hp
  obtain ⟨pu, ku, rfl, ⟨_, mu⟩, _⟩ := hf
  obtain ⟨pv, kv, rfl, ⟨_, mv⟩, _⟩ := hg
  unfold maxLen at mu mv
  have HNA := Lib.hid hNA
  have HNB := Lib.hid hNB
  have Hl1 := Lib.hid (show NA + NB ≤ maxLen by unfold maxLen; omega)
  have Hl2 := Lib.hid (show (NA + NB) * 24 ≤ 140737488355328 by omega)
  clear hfi hgi hA hB hp hNA hNB
  go_enter Try.func44, Try.ntmps44
  go_wp2_with fail
  refine (cloneRows_any _ NA f _ Hf.out (fun j hj => (Hfi.out j hj).one) (by omega)).mono ?_
  rintro e w1 ⟨y, rfl, ho, hb⟩
  obtain ⟨py, ky, rfl, _, _⟩ := ho.shape
  have hs1 := hb.size
  have Ho := Lib.hid ho
  have Hb := Lib.hid hb
  clear ho hb
  go_wp2_with (at_builtin; go_must (refine wpList_append_F rfl (.tmp 13) (.tmp 14) 43 rfl 22 (.slice none 0 0) 24 Try.underlying43 info_sl rfl w.heap.size w1.heap.size _ NA _ rfl Ho.out hs1 (Nat.le_refl _) _ _ _ rfl (Rd.below Hg.out Hb.out) (fun j hj => (Hgi.out j hj).one) Hl1.out Hl2.out ?_; intro v' w2 ho' hg'))
  have hb2 : Below w.heap.size w w2 := Hb.out.trans (grownBy_below hg' Ho.out.blocks (Nat.le_refl _) hs1)
  rw [HNA.out, HNB.out] at ho'
  have hr := rdII_join ho' (fun i hi => (Hfi.out i (by rw [HNA.out]; exact hi)).below hb2) (fun i hi => (Hgi.out i (by rw [HNB.out]; exact hi)).below hb2)
  rw [← HNA.out, ← HNB.out] at ho'
  obtain ⟨pj, kj, rfl, _, _⟩ := ho'.shape
  obtain ⟨J, hJ⟩ : ∃ J, J = A ++ B := ⟨_, rfl⟩
  have hJl : J.length = NA + NB := by rw [hJ, List.length_append, ← HNA.out, ← HNB.out]
  rw [← hJ] at hr
  have Hr := Lib.hid hr
  have HJ := Lib.hid hJ
  have HJl := Lib.hid hJl
  have Hb2 := Lib.hid hb2
  clear hr hJ hb2 ho' hg' hJl
  go_wp2_with fail
  refine (reduced_any _ J C P _ Hr.out (by rw [HJ.out]; exact RowsOk.join HA.out HB.out) Hp.out (by rw [HJl.out]; omega) hC).mono ?_
  rintro e w3 ⟨y, L, q, rfl, hoR, hb3, hR1, hR2, hR3, hR4, hR5⟩
  obtain ⟨pr, kr, rfl, hkr1, hkr2⟩ := hoR.shape
  unfold maxLen at hkr2
  rw [HJl.out] at hR5
  have hrank : HasRank P C (NA + NB) (mt J) L.length := by
    refine ⟨mt L, q, hR2, hR3, fun i j hi hj => (hR1 i hi).2 j, ?_⟩
    rw [← HJl.out]; exact hR4
  have Hrank := Lib.hid hrank
  have Hb3 := Lib.hid (Hb2.out.trans (hb3.mono Hb2.out.size))
  clear hrank hb3 hoR hR1 hR2 hR3 hR4
  go_wp2_with fail
  go_ret
  refine ⟨L.length, rfl, ?_, Hb3.out⟩
  rw [← HJ.out]; exact Hrank.out


theorem list_range (D : List Int) {n : Nat} (h : n ≤ D.length) : (List.range n).map (fun t => D.getD t 0) = D.take n := by
  apply List.ext_getElem (by simp; omega)
  intro i h1 h2
  simp at h1
  simp [List.getD_eq_getElem?_getD, show i < D.length by omega]
/-- the first rows -/
theorem l7Top_D (P : Int) (R C n : Nat) (d : Value) (D : List Int) (w : World) (hd : Ints w d D) (hN : D.length = R * C) (hn : n ≤ R) (hR : R ≤ 14) (hC : C ≤ 14) :
    Calls Try.prog 65 #[.agg #[.int .i64 P, .int .i64 (R : Int), .int .i64 (C : Int), d], .int .i64 (n : Int)] w (RetM w ⟨P, n, C, D.take (n * C)⟩) := by
  have hnC : n * C ≤ D.length := by rw [hN]; exact Nat.mul_le_mul_right C hn
  rw [← list_range D hnC]
  obtain ⟨p, k, rfl, _⟩ := id hd
  refine l7Top_any P R C n p k D.length (fun t => D.getD t 0) w ?_ hN hn hR hC
  rw [list_range D (Nat.le_refl _), List.take_length]
  exact hd
theorem take_getD {D : List Int} {n t : Nat} (h : t < n) : (D.take n).getD t 0 = D.getD t 0 := by simp [List.getD_eq_getElem?_getD, List.getElem?_take, h]
theorem flat_lt {n C i c : Nat} (hi : i < n) (hc : c < C) : i * C + c < n * C := by
  have : (i + 1) * C ≤ n * C := Nat.mul_le_mul_right C hi
  rw [Nat.succ_mul] at this
  omega
theorem take_rng {P : Int} {D : List Int} {n : Nat} (hP : 0 < P) (h : ∀ t, 0 ≤ D.getD t 0 ∧ D.getD t 0 < P) (t : Nat) : 0 ≤ (D.take n).getD t 0 ∧ (D.take n).getD t 0 < P := by
  by_cases e : t < n
  · rw [take_getD e]; exact h t
  · rw [List.getD_eq_getElem?_getD, List.getElem?_take, if_neg e]; simp; exact hP
theorem HasRank.take {P : Int} {C n k : Nat} {D : List Int} (h : HasRank P C n (mf C fun t => (D.take (n * C)).getD t 0) k) : HasRank P C n (mf C fun t => D.getD t 0) k :=
  h.congr fun i j hi hj => (take_getD (flat_lt hi hj)).symm


set_option maxRecDepth 100000 in
set_option maxHeartbeats 16000000 in
theorem l7Common_any (AP : Int) (AR BR C i j : Nat) (dA dB : Value) (DA DB : List Int) (w : World) (hdA : Ints w dA DA) (hdB : Ints w dB DB) (hlA : DA.length = AR * C) (hlB : DB.length = BR * C) (hrA : AR ≤ 7) (hrB : BR ≤ 7) (hC : C ≤ 7) (hi : i ≤ AR) (hj : j ≤ BR)
    (hgA : ∀ t, 0 ≤ DA.getD t 0 ∧ DA.getD t 0 < AP) (hgB : ∀ t, 0 ≤ DB.getD t 0 ∧ DB.getD t 0 < AP) (hpr : primeOk AP = true) :
    Calls Try.prog 41 #[.agg #[.int .i64 AP, .int .i64 (AR : Int), .int .i64 (C : Int), dA], .int .i64 (i : Int), .agg #[.int .i64 AP, .int .i64 (BR : Int), .int .i64 (C : Int), dB], .int .i64 (j : Int)] w fun e w' =>
      ∃ n1 n2 n3 : Nat, e = .returned (.int .i64 ((n1 : Int) + (n2 : Int) - (n3 : Int))) ∧ HasRank AP C i (mf C fun t => DA.getD t 0) n1 ∧ HasRank AP C j (mf C fun t => DB.getD t 0) n2 ∧
        HasRank AP C (i + j) (stackM i (mf C fun t => DA.getD t 0) (mf C fun t => DB.getD t 0)) n3 ∧ Below w.heap.size w w' := by
  obtain ⟨hP2, hP7⟩ := primeOk_range hpr
  have HlA := Lib.hid hlA
  have HlB := Lib.hid hlB
  have HgA := Lib.hid hgA
  have HgB := Lib.hid hgB
  have Hpr := Lib.hid hpr
  have HmA := Lib.hid (show i * C ≤ DA.length by rw [hlA]; exact Nat.mul_le_mul_right C hi)
  have HmB := Lib.hid (show j * C ≤ DB.length by rw [hlB]; exact Nat.mul_le_mul_right C hj)
  have Hm7 := Lib.hid (Nat.mul_le_mul (show i ≤ 7 by omega) hC)
  have Hm8 := Lib.hid (Nat.mul_le_mul (show j ≤ 7 by omega) hC)
  clear hlA hlB hgA hgB hpr
  have HdA := Lib.hid hdA
  obtain ⟨pA, kA, rfl, ⟨_, mA⟩, _⟩ := hdA
  unfold maxLen at mA
  have HdB := Lib.hid hdB
  obtain ⟨pB, kB, rfl, ⟨_, mB⟩, _⟩ := hdB
  unfold maxLen at mB
  obtain ⟨z0, z1⟩ := boxes_ab w (.cells #[.int .i64 AP, .int .i64 (AR : Int), .int .i64 (C : Int), .slice pA DA.length kA] 26) (.cells #[.int .i64 AP, .int .i64 (BR : Int), .int .i64 (C : Int), .slice pB DB.length kB] 26)
  have ZA1 := Lib.hid z0
  have ZB1 := Lib.hid z1
  clear z0 z1
  have HB1 := Lib.hid (below_alloc2 w (.cells #[.int .i64 AP, .int .i64 (AR : Int), .int .i64 (C : Int), .slice pA DA.length kA] 26) (.cells #[.int .i64 AP, .int .i64 (BR : Int), .int .i64 (C : Int), .slice pB DB.length kB] 26))
  go_enter Try.func41, Try.ntmps41
  go_wp2_with fail
  have hs1 : ((w.alloc (.cells #[.int .i64 AP, .int .i64 (AR : Int), .int .i64 (C : Int), .slice pA DA.length kA] 26)).alloc (.cells #[.int .i64 AP, .int .i64 (BR : Int), .int .i64 (C : Int), .slice pB DB.length kB] 26)).heap.size = w.heap.size + 1 + 1 := by simp
  generalize (w.alloc (.cells #[.int .i64 AP, .int .i64 (AR : Int), .int .i64 (C : Int), .slice pA DA.length kA] 26)).alloc (.cells #[.int .i64 AP, .int .i64 (BR : Int), .int .i64 (C : Int), .slice pB DB.length kB] 26) = w1 at *
  obtain ⟨cA0, cA1, cA2, cA3, cAf, cAz⟩ := blk4 ZA1.out
  obtain ⟨cB0, cB1, cB2, cB3, cBf, cBz⟩ := blk4 ZB1.out
  go_region_held3 (fun w' => (w'.cell? ⟨w.heap.size, 0, none⟩ = some (.int .i64 AP) ∧ w'.cell? ⟨w.heap.size, 1, none⟩ = some (.int .i64 (AR : Int)) ∧ w'.cell? ⟨w.heap.size, 2, none⟩ = some (.int .i64 (C : Int)) ∧ w'.cell? ⟨w.heap.size, 3, none⟩ = some (.slice pA DA.length kA) ∧ w'.cell? ⟨w.heap.size + 1, 0, none⟩ = some (.int .i64 AP) ∧ w'.cell? ⟨w.heap.size + 1, 1, none⟩ = some (.int .i64 (BR : Int)) ∧ w'.cell? ⟨w.heap.size + 1, 2, none⟩ = some (.int .i64 (C : Int)) ∧ w'.cell? ⟨w.heap.size + 1, 3, none⟩ = some (.slice pB DB.length kB)) ∧ Below w1.heap.size w1 w')
    (first | exact ⟨⟨cA0, cA1, cA2, cA3, cB0, cB1, cB2, cB3⟩, (Below.refl _ _).drew⟩ | exact keep8 hb1 (by assumption))
    (first
      | (go_at_call_of 65 (Value.slice pA DA.length kA); refine (l7Top_D AP AR C i _ DA _ ((HdA.out.below HB1.out).below (held_below (by assumption))) HlA.out (by omega) (by omega) (by omega)).mono ?_; rintro e w' ⟨u, rfl, hoT, hb1⟩; have hoTA : OwnI 3 w' _ w'.heap.size u (DA.take (i * C)) := hoT; clear hoT; obtain ⟨TA, hTA⟩ : ∃ T, T = DA.take (i * C) := ⟨_, rfl⟩; rw [← hTA] at hoTA; have HTA := Lib.hid hTA; clear hTA; obtain ⟨qA, rA, rfl, _, _⟩ := hoTA.shape)
      | (go_at_call_of 57 (Value.slice qA TA.length rA); refine (l7Rank_any AP i C _ TA _ (OwnI.below hoTA (by first | exact Below.refl _ _ | exact (Below.refl _ _).drew)).ints (by rw [HTA.out, List.length_take, Nat.min_eq_left HmA.out]) (by rw [HTA.out]; exact take_rng (by omega) HgA.out) Hpr.out (by omega) (by omega)).mono ?_; rintro e w' ⟨n1, rfl, hnA, hleA, hb1⟩; rw [HTA.out] at hnA; have HnA := Lib.hid hnA.take; clear hnA)
      | (go_at_call_of 65 (Value.slice pB DB.length kB); refine (l7Top_D AP BR C j _ DB _ ((HdB.out.below HB1.out).below (held_below (by assumption))) HlB.out (by omega) (by omega) (by omega)).mono ?_; rintro e w' ⟨u, rfl, hoT, hb1⟩; have hoTB : OwnI 3 w' _ w'.heap.size u (DB.take (j * C)) := hoT; clear hoT; obtain ⟨TB, hTB⟩ : ∃ T, T = DB.take (j * C) := ⟨_, rfl⟩; rw [← hTB] at hoTB; have HTB := Lib.hid hTB; clear hTB; obtain ⟨qB, rB, rfl, _, _⟩ := hoTB.shape; first | (have hoTA := (OwnI.below hoTA (by first | exact Below.refl _ _ | exact (Below.refl _ _).drew)).below hb1) | skip)
      | (go_at_call_of 57 (Value.slice qB TB.length rB); refine (l7Rank_any AP j C _ TB _ (OwnI.below hoTB (by first | exact Below.refl _ _ | exact (Below.refl _ _).drew)).ints (by rw [HTB.out, List.length_take, Nat.min_eq_left HmB.out]) (by rw [HTB.out]; exact take_rng (by omega) HgB.out) Hpr.out (by omega) (by omega)).mono ?_; rintro e w' ⟨n2, rfl, hnB, hleB, hb1⟩; rw [HTB.out] at hnB; have HnB := Lib.hid hnB.take; clear hnB)
      | (go_at_call 66; refine (l7Both_any AP i j C C _ _ TA TB _ (OwnI.below hoTA (by first | exact Below.refl _ _ | exact (Below.refl _ _).drew)).ints (OwnI.below hoTB (by first | exact Below.refl _ _ | exact (Below.refl _ _).drew)).ints (by rw [HTA.out, List.length_take]; have := Hm7.out; omega) (by rw [HTB.out, List.length_take]; have := Hm8.out; omega) (by omega) (by omega)).mono ?_; rintro e w' ⟨u, rfl, hoT, hb1⟩; have hoU : OwnI 3 w' _ w'.heap.size u (TA ++ TB) := hoT; clear hoT; obtain ⟨U, hU⟩ : ∃ T, T = TA ++ TB := ⟨_, rfl⟩; rw [← hU] at hoU; have HU := Lib.hid hU; clear hU; obtain ⟨qU, rU, rfl, _, _⟩ := hoU.shape)
      | (go_at_call_of 57 (Value.slice qU U.length rU); refine (l7Rank_any AP (i + j) C _ U _ (OwnI.below hoU (by first | exact Below.refl _ _ | exact (Below.refl _ _).drew)).ints (by rw [HU.out, List.length_append, HTA.out, HTB.out, List.length_take, List.length_take, Nat.min_eq_left HmA.out, Nat.min_eq_left HmB.out, Nat.add_mul]) (by rw [HU.out]; exact both_rng (by omega) (by rw [HTA.out]; exact take_rng (by omega) HgA.out) (by rw [HTB.out]; exact take_rng (by omega) HgB.out)) Hpr.out (by omega) (by omega)).mono ?_; rintro e w' ⟨n3, rfl, hnU, hn3, hb1⟩; have HnU := Lib.hid hnU; clear hnU))
  have HBz := Lib.hid (HB1.out.trans (Below.mono (held_below (by assumption)) (by omega)))
  clear cA0 cA1 cA2 cA3 cAf cAz cB0 cB1 cB2 cB3 cBf cBz
  have hw : IntKind.i64.wrap (IntKind.i64.wrap ((n1 : Int) + (n2 : Int)) - (n3 : Int)) = (n1 : Int) + (n2 : Int) - (n3 : Int) := by rw [k64 (n := (n1 : Int) + (n2 : Int)) (by omega) (by omega)]; exact k64 (by omega) (by omega)
  have Hw := Lib.hid hw
  clear hw
  go_wp2_with fail
  go_ret
  refine ⟨n1, n2, n3, ?_, HnA.out, HnB.out, ?_, HBz.out⟩
  · exact ret_int Hw.out
  · have := HnU.out
    refine this.congr fun x y hx hy => ?_
    rw [HU.out, both_mf (by rw [HTA.out, List.length_take, Nat.min_eq_left HmA.out]) hx hy]
    unfold stackM
    by_cases h : x < i
    · rw [if_pos h, if_pos h, HTA.out]; exact (take_getD (flat_lt h hy)).symm
    · rw [if_neg h, if_neg h, HTB.out]; exact (take_getD (flat_lt (by omega) hy)).symm

end Go.Proofs.Ytapmnfakjnhlbaa
