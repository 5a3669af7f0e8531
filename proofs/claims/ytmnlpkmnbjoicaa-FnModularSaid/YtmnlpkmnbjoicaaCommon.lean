/-
  What two lists of rows have in common: slices.Clone of rows, impl.common, spec.l7Common.
-/
import Derived.Test.YtmnlpkmnbjoicaaSum
namespace Go.Proofs.Ytmnlpkmnbjoicaa
set_option linter.all false
open Go.RowKit

set_option maxRecDepth 100000 in
set_option maxHeartbeats 400000 in
theorem cloneRows_any (v : Value) (n : Nat) (f : Nat → Value) (w : World) (h : Rd w v n f) (h1 : ∀ j, j < n → (f j).oneCell' = true) (hl : n ≤ 1000) :
    Calls Try.prog 60 #[v] w fun e w' => ∃ u, e = .returned u ∧ OwnF w' w.heap.size w'.heap.size 24 u n f ∧ Below w.heap.size w w' := by
  have hI := Lib.hid h
  have H1 := Lib.hid h1
  obtain ⟨p, cap, rfl, ⟨hx1, hx2⟩, hxc⟩ := h
  have keq := fun (n c : Nat) => Lib.run_eql_slice_nil (P := Try.prog) w 53 24 p n c 0 0 Try.underlying53
  cases p with
  | none =>
    have hx0 : n = 0 := by
      rcases Nat.eq_zero_or_pos n with h0 | h0
      · exact h0
      · obtain ⟨b, off, e, _⟩ := hxc h0; cases e
    subst hx0
    clear hxc hI
    go_enter Try.func60, Try.ntmps60
    go_wp2_with fail
    go_ret
    exact ⟨_, rfl, OwnF.nil _ _ _ _ _, Below.refl _ _⟩
  | some a =>
    have Hb1 := Lib.hid (show 0 + n ≤ maxLen by unfold maxLen; omega)
    have Hb2 := Lib.hid (show (0 + n) * 24 ≤ 140737488355328 by omega)
    clear hxc h1
    go_enter Try.func60, Try.ntmps60
    go_wp2_with (at_builtin; go_must (refine wpList_append_F rfl (.tmp 5) (.tmp 6) 53 rfl 24 (.slice none 0 0) 24 Try.underlying53 info_sl rfl w.heap.size (w.heap.size + 1) _ 0 (fun _ => undef) rfl (OwnF.made0 w _ _) (by simp) (by simp) _ _ _ rfl (hI.out.below (below_alloc w _)) H1.out Hb1.out Hb2.out ?_; intro v' w' ho' hg'))
    go_ret
    refine ⟨_, rfl, ?_, (below_alloc w _).trans (grownBy_below hg' (OwnF.made0 w 24 (fun _ => undef)).blocks (Nat.le_refl _) (by simp))⟩
    rw [Nat.zero_add] at ho'
    exact ho'.congr fun j _ => by simp

/-- rows that can be read, one list behind another one -/
theorem rdII_join {T : TypeId} {w : World} {lo hi : Nat} {v : Value} {a b : List (List Int)} {f g : Nat → Value} (h : OwnF w lo hi T v (a.length + b.length) (fun j => if j < a.length then f j else g (j - a.length)))
    (hf : ∀ i, i < a.length → Ints w (f i) (a.getD i [])) (hg : ∀ i, i < b.length → Ints w (g i) (b.getD i [])) : RdII w v (a ++ b) := by
  refine ⟨_, by rw [List.length_append]; exact h.rd, fun i hi => ?_⟩
  rw [List.length_append] at hi
  by_cases e : i < a.length
  · simp only [e, if_true]
    rw [show (a ++ b).getD i [] = a.getD i [] by simp [List.getD_eq_getElem?_getD, List.getElem?_append_left e]]
    exact hf i e
  · simp only [e, if_false]
    rw [show (a ++ b).getD i [] = b.getD (i - a.length) [] by simp [List.getD_eq_getElem?_getD, List.getElem?_append_right (Nat.le_of_not_lt e)]]
    exact hg _ (by omega)
theorem Ints.one {w : World} {v : Value} {xs : List Int} (h : Ints w v xs) : v.oneCell' = true := by
  obtain ⟨p, cap, rfl, _⟩ := h
  rfl
theorem Ints.grown {T : TypeId} {w w' : World} {lo hi n : Nat} {v u : Value} {f : Nat → Value} {xs : List Int} {B : Nat} (h : Ints w u xs) (hb : Below B w w') (hu : ∀ b, (∃ n c o, u = .slice (some ⟨b, o, none⟩) n c) → b < B) : Ints w' u xs := by
  obtain ⟨p, cap, rfl, hm, hc⟩ := h
  refine ⟨p, cap, rfl, hm, fun h0 => ?_⟩
  obtain ⟨b, off, rfl, hx⟩ := hc h0
  exact ⟨b, off, rfl, fun j hj => by
    have := hx j hj
    rw [hb.cell (hu b ⟨_, _, _, rfl⟩)]
    exact this⟩
/-- behind what changed from B on: rows that lay below B -/
theorem Ints.up {w0 w w' : World} {u : Value} {xs : List Int} (h : Ints w0 u xs) (hb : Below w0.heap.size w0 w') : Ints w' u xs := h.below hb

set_option maxRecDepth 100000 in
set_option maxHeartbeats 1000000 in
theorem common_any (P : Int) (C : Nat) (u v : Value) (A B : List (List Int)) (w : World) (hu : RdII w u A) (hv : RdII w v B) (hA : RowsOk P C A) (hB : RowsOk P C B) (hp : primeOk P = true) (hlA : A.length ≤ 40) (hlB : B.length ≤ 40) (hC : C ≤ 100) :
    Calls Try.prog 43 #[u, v, .int .i64 P] w fun e w' => ∃ n : Nat, e = .returned (.int .i64 ((A.length : Int) + (B.length : Int) - (n : Int))) ∧ HasRank P C (A.length + B.length) (mt (A ++ B)) n ∧ Below w.heap.size w w' := by
  obtain ⟨f, hf, hfi⟩ := hu
  obtain ⟨g, hg, hgi⟩ := hv
  obtain ⟨NA, hNA⟩ : ∃ n, n = A.length := ⟨_, rfl⟩
  obtain ⟨NB, hNB⟩ : ∃ n, n = B.length := ⟨_, rfl⟩
  rw [← hNA, ← hNB]
  rw [← hNA] at hf hfi hlA
  rw [← hNB] at hg hgi hlB
  have Hf := Lib.hid hf
  have Hg := Lib.hid hg
  have Hfi := Lib.hid hfi
  have Hgi := Lib.hid hgi
  have HA := Lib.hid hA
  have HB := Lib.hid hB
  have Hp := Lib.hid hp
  obtain ⟨pu, ku, rfl, ⟨_, mu⟩, _⟩ := hf
  obtain ⟨pv, kv, rfl, ⟨_, mv⟩, _⟩ := hg
  unfold maxLen at mu mv
  have HNA := Lib.hid hNA
  have HNB := Lib.hid hNB
  have Hl1 := Lib.hid (show NA + NB ≤ maxLen by unfold maxLen; omega)
  have Hl2 := Lib.hid (show (NA + NB) * 24 ≤ 140737488355328 by omega)
  clear hfi hgi hA hB hp hNA hNB
  go_enter Try.func43, Try.ntmps43
  go_wp2_with fail
  refine (cloneRows_any _ NA f _ Hf.out (fun j hj => (Hfi.out j hj).one) (by omega)).mono ?_
  rintro e w1 ⟨y, rfl, ho, hb⟩
  obtain ⟨py, ky, rfl, _, _⟩ := ho.shape
  have hs1 := hb.size
  have Ho := Lib.hid ho
  have Hb := Lib.hid hb
  clear ho hb
  go_wp2_with (at_builtin; go_must (refine wpList_append_F rfl (.tmp 13) (.tmp 14) 53 rfl 24 (.slice none 0 0) 24 Try.underlying53 info_sl rfl w.heap.size w1.heap.size _ NA _ rfl Ho.out hs1 (Nat.le_refl _) _ _ _ rfl (Rd.below Hg.out Hb.out) (fun j hj => (Hgi.out j hj).one) Hl1.out Hl2.out ?_; intro v' w2 ho' hg'))
  have hb2 : Below w.heap.size w w2 := Hb.out.trans (grownBy_below hg' Ho.out.blocks (Nat.le_refl _) hs1)
  rw [HNA.out, HNB.out] at ho'
  have hr := rdII_join ho' (fun i hi => (Hfi.out i (by rw [HNA.out]; exact hi)).below hb2) (fun i hi => (Hgi.out i (by rw [HNB.out]; exact hi)).below hb2)
  rw [← HNA.out, ← HNB.out] at ho'
  obtain ⟨pj, kj, rfl, _, _⟩ := ho'.shape
  obtain ⟨J, hJ⟩ : ∃ J, J = A ++ B := ⟨_, rfl⟩
  have hJl : J.length = NA + NB := by rw [hJ, List.length_append, ← HNA.out, ← HNB.out]
  rw [← hJ] at hr
  have Hr := Lib.hid hr
  have HJ := Lib.hid hJ
  have HJl := Lib.hid hJl
  have Hb2 := Lib.hid hb2
  clear hr hJ hb2 ho' hg' hJl
  go_wp2_with fail
  refine (reduced_any _ J C P _ Hr.out (by rw [HJ.out]; exact RowsOk.join HA.out HB.out) Hp.out (by rw [HJl.out]; omega) hC).mono ?_
  rintro e w3 ⟨y, L, q, rfl, hoR, hb3, hR1, hR2, hR3, hR4, hR5⟩
  obtain ⟨pr, kr, rfl, hkr1, hkr2⟩ := hoR.shape
  unfold maxLen at hkr2
  rw [HJl.out] at hR5
  have hrank : HasRank P C (NA + NB) (mt J) L.length := by
    refine ⟨mt L, q, hR2, hR3, fun i j hi hj => (hR1 i hi).2 j, ?_⟩
    rw [← HJl.out]; exact hR4
  have Hrank := Lib.hid hrank
  have Hb3 := Lib.hid (Hb2.out.trans (hb3.mono Hb2.out.size))
  clear hrank hb3 hoR hR1 hR2 hR3 hR4
  go_wp2_with fail
  go_ret
  refine ⟨L.length, rfl, ?_, Hb3.out⟩
  rw [← HJ.out]; exact Hrank.out


theorem list_range (D : List Int) {n : Nat} (h : n ≤ D.length) : (List.range n).map (fun t => D.getD t 0) = D.take n := by
  apply List.ext_getElem (by simp; omega)
  intro i h1 h2
  simp at h1
  simp [List.getD_eq_getElem?_getD, show i < D.length by omega]
/-- the first rows -/
theorem l7Top_D (P : Int) (R C n : Nat) (d : Value) (D : List Int) (w : World) (hd : Ints w d D) (hN : D.length = R * C) (hn : n ≤ R) (hR : R ≤ 14) (hC : C ≤ 14) :
    Calls Try.prog 62 #[.agg #[.int .i64 P, .int .i64 (R : Int), .int .i64 (C : Int), d], .int .i64 (n : Int)] w (RetM w ⟨P, n, C, D.take (n * C)⟩) := by
  have hnC : n * C ≤ D.length := by rw [hN]; exact Nat.mul_le_mul_right C hn
  rw [← list_range D hnC]
  obtain ⟨p, k, rfl, _⟩ := id hd
  refine l7Top_any P R C n p k D.length (fun t => D.getD t 0) w ?_ hN hn hR hC
  rw [list_range D (Nat.le_refl _), List.take_length]
  exact hd
theorem take_getD {D : List Int} {n t : Nat} (h : t < n) : (D.take n).getD t 0 = D.getD t 0 := by simp [List.getD_eq_getElem?_getD, List.getElem?_take, h]
theorem flat_lt {n C i c : Nat} (hi : i < n) (hc : c < C) : i * C + c < n * C := by
  have : (i + 1) * C ≤ n * C := Nat.mul_le_mul_right C hi
  rw [Nat.succ_mul] at this
  omega
theorem take_rng {P : Int} {D : List Int} {n : Nat} (hP : 0 < P) (h : ∀ t, 0 ≤ D.getD t 0 ∧ D.getD t 0 < P) (t : Nat) : 0 ≤ (D.take n).getD t 0 ∧ (D.take n).getD t 0 < P := by
  by_cases e : t < n
  · rw [take_getD e]; exact h t
  · rw [List.getD_eq_getElem?_getD, List.getElem?_take, if_neg e]; simp; exact hP
theorem HasRank.take {P : Int} {C n k : Nat} {D : List Int} (h : HasRank P C n (mf C fun t => (D.take (n * C)).getD t 0) k) : HasRank P C n (mf C fun t => D.getD t 0) k :=
  h.congr fun i j hi hj => (take_getD (flat_lt hi hj)).symm


end Go.Proofs.Ytmnlpkmnbjoicaa
