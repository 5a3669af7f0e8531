/-
  What two spaces have in common: the reference's, walked.
-/
import Derived.Test.YtapmnfakjnhlbaaMeetP
import Derived.Test.YtapmnfakjnhlbaaCommon
import Derived.Deep.RegionLaw
namespace Go.Proofs.Ytapmnfakjnhlbaa
set_option linter.all false
open Go.RowKit

/-- row i of what is reduced -/
def rr (c ra : Nat) (DA DB : List Int) (i : Nat) : List Int := if i < ra then rowAt c DA i ++ rowAt c DA i else rowAt c DB (i - ra) ++ List.replicate c 0
theorem rr_length {c ra rb : Nat} {DA DB : List Int} (hA : DA.length = ra * c) (hB : DB.length = rb * c) : ∀ i, i < ra + rb → (rr c ra DA DB i).length = 2 * c := fun i hi => by
  unfold rr
  split
  · rw [List.length_append, rowAt_length (by rw [hA]; exact mul_le_of (by assumption))]; omega
  · rw [List.length_append, rowAt_length (by rw [hB]; exact mul_le_of (by omega)), List.length_replicate]; omega
theorem rr_mt {c ra rb i j : Nat} {DA DB : List Int} (hA : DA.length = ra * c) (hB : DB.length = rb * c) (hi : i < ra + rb) (hj : j < 2 * c) :
    (rr c ra DA DB i).getD j 0 = mtM c ra (mf c fun t => DA.getD t 0) (mf c fun t => DB.getD t 0) i j := by
  unfold rr mtM
  by_cases h : i < ra
  · rw [if_pos h, stackM_lt h]
    have hl : (rowAt c DA i).length = c := rowAt_length (by rw [hA]; exact mul_le_of h)
    by_cases e : j < c
    · rw [if_pos e, List.getD_eq_getElem?_getD, List.getElem?_append_left (by omega), ← List.getD_eq_getElem?_getD, rowAt_getD e]; rfl
    · rw [if_neg e, List.getD_eq_getElem?_getD, List.getElem?_append_right (by omega), ← List.getD_eq_getElem?_getD, hl, rowAt_getD (by omega)]; rfl
  · rw [if_neg h, stackM_ge h]
    have hl : (rowAt c DB (i - ra)).length = c := rowAt_length (by rw [hB]; exact mul_le_of (by omega))
    by_cases e : j < c
    · rw [if_pos e, List.getD_eq_getElem?_getD, List.getElem?_append_left (by omega), ← List.getD_eq_getElem?_getD, rowAt_getD e]; rfl
    · rw [if_neg e, List.getD_eq_getElem?_getD, List.getElem?_append_right (by omega), hl]
      simp [List.getElem?_replicate, show j - c < c by omega]
theorem rr_rng {P : Int} {c ra rb : Nat} {DA DB : List Int} (hP : 0 < P) (hA : DA.length = ra * c) (hB : DB.length = rb * c) (ha : ∀ t, 0 ≤ DA.getD t 0 ∧ DA.getD t 0 < P) (hb : ∀ t, 0 ≤ DB.getD t 0 ∧ DB.getD t 0 < P) (t : Nat) :
    0 ≤ (rowsF (ra + rb) (rr c ra DA DB)).getD t 0 ∧ (rowsF (ra + rb) (rr c ra DA DB)).getD t 0 < P := by
  have hl := rowsF_length (rr_length hA hB)
  by_cases e : t < (ra + rb) * (2 * c)
  · have hc : 0 < 2 * c := by
      rcases Nat.eq_zero_or_pos (2 * c) with h | h
      · rw [h] at e; omega
      · exact h
    have h1 : t / (2 * c) < ra + rb := Nat.div_lt_of_lt_mul (by rw [Nat.mul_comm]; exact e)
    have h2 : t % (2 * c) < 2 * c := Nat.mod_lt _ hc
    have h3 : t = t / (2 * c) * (2 * c) + t % (2 * c) := by rw [Nat.mul_comm]; exact (Nat.div_add_mod _ _).symm
    rw [h3, rowsF_getD (rr_length hA hB) h1 h2, rr_mt hA hB h1 h2]
    unfold mtM
    by_cases h : t / (2 * c) < ra
    · rw [stackM_lt h]
      split
      · exact ha _
      · exact ha _
    · rw [stackM_ge h]
      split
      · exact hb _
      · omega
  · rw [getD_out (by rw [hl]; omega)]; omega
/-- a row of a matrix, within what lies flat -/
theorem row_part {w : World} {D : List Int} {bl off cap i c K R : Nat} (h : Ints w (.slice (some ⟨bl, off, none⟩) D.length cap) D) (hD : D.length = R * c) (hK : K = i * c) (hi : i < R) (hcap : D.length ≤ cap) (hm : cap ≤ maxLen) :
    Rd w (.slice (some ⟨bl, off + K, none⟩) c (cap - K)) c (iv (rowAt c D i)) := by
  have hkc := mul_le_of (C := c) hi
  rw [Nat.add_mul, Nat.one_mul, ← hD, ← hK] at hkc
  exact (Rd.part h K c (cap - K) hkc (by omega) (by omega)).congr fun j hj => by rw [iv, iv, rowAt_getD hj, hK]
/-- the second half of row i -/
def rowH (c : Nat) (h : Nat → Int) (i : Nat) : List Int := (List.range c).map fun j => h (i * (2 * c) + c + j)
theorem rowH_length (c : Nat) (h : Nat → Int) (i : Nat) : (rowH c h i).length = c := by simp [rowH]
theorem flatMap_length {W : Nat} {f : Nat → List Int} (hf : ∀ i, (f i).length = W) : ∀ l : List Nat, (l.flatMap f).length = l.length * W
  | [] => by simp
  | a :: l => by rw [List.flatMap_cons, List.length_append, hf, flatMap_length hf l, List.length_cons, Nat.succ_mul]; omega
theorem flatMap_getD {W : Nat} {f : Nat → List Int} (hf : ∀ i, (f i).length = W) : ∀ (l : List Nat) (i j : Nat), i < l.length → j < W → (l.flatMap f).getD (i * W + j) 0 = (f (l.getD i 0)).getD j 0
  | [], i, j, h, _ => by simp at h
  | a :: l, 0, j, _, hj => by
    rw [List.flatMap_cons, Nat.zero_mul, Nat.zero_add, List.getD_eq_getElem?_getD, List.getElem?_append_left (by rw [hf]; exact hj), ← List.getD_eq_getElem?_getD]; rfl
  | a :: l, i + 1, j, h, hj => by
    have ih := flatMap_getD hf l i j (by simpa using h) hj
    rw [List.flatMap_cons, List.getD_eq_getElem?_getD, List.getElem?_append_right (by rw [hf, Nat.succ_mul]; omega), ← List.getD_eq_getElem?_getD, hf, show (i + 1) * W + j - W = i * W + j by rw [Nat.succ_mul]; omega, ih]
    simp [List.getD_eq_getElem?_getD]
theorem OwnF.keepB {T : TypeId} {w w' : World} {lo hi n : Nat} {v : Value} {f : Nat → Value} (h : OwnF w lo hi T v n f) (hb : ∀ k, v.ownBlock = some k → w'.heap[k]? = w.heap[k]?) : OwnF w' lo hi T v n f := by
  obtain ⟨xs, h, hf⟩ := h
  exact ⟨xs, ⟨ownsRow_of_block h.1 hb, h.2⟩, hf⟩
theorem own_two {T : TypeId} {w : World} {lo hi N M : Nat} {v : Value} {xs ys : List Int} (hN : xs.length = N) (h : OwnF w lo hi T v (N + M) (fun j => if j < N then iv xs j else iv ys (j - N))) : OwnF w lo hi T v (N + M) (iv (xs ++ ys)) :=
  h.congr fun j _ => iv_append hN.symm j

set_option maxRecDepth 100000 in
set_option maxHeartbeats 16000000 in
theorem l7Meet_any (P : Int) (ra rb c : Nat) (dA dB : Value) (DA DB : List Int) (w : World) (hdA : Ints w dA DA) (hdB : Ints w dB DB) (hlA : DA.length = ra * c) (hlB : DB.length = rb * c) (hra : ra ≤ 7) (hrb : rb ≤ 7) (hc0 : 1 ≤ c) (hc : c ≤ 7)
    (hgA : ∀ t, 0 ≤ DA.getD t 0 ∧ DA.getD t 0 < P) (hgB : ∀ t, 0 ≤ DB.getD t 0 ∧ DB.getD t 0 < P) (hpr : primeOk P = true) :
    Calls Try.prog 26 #[.agg #[.int .i64 P, .int .i64 (ra : Int), .int .i64 (c : Int), dA], .agg #[.int .i64 P, .int .i64 (rb : Int), .int .i64 (c : Int), dB]] w fun e w' =>
      ∃ m, RetM w m e w' ∧ MtIs P c ra rb (mf c fun t => DA.getD t 0) (mf c fun t => DB.getD t 0) m := by
  obtain ⟨hP2, hP7⟩ := primeOk_range hpr
  have HdA := Lib.hid hdA
  have HdB := Lib.hid hdB
  have HlA := Lib.hid hlA
  have HlB := Lib.hid hlB
  have HgA := Lib.hid hgA
  have HgB := Lib.hid hgB
  have Hpr := Lib.hid hpr
  obtain ⟨pA, kA, rfl, ⟨lA, mA⟩, xA⟩ := hdA
  obtain ⟨pB, kB, rfl, ⟨lB, mB⟩, xB⟩ := hdB
  have HmA := Lib.hid mA
  have HmB := Lib.hid mB
  unfold maxLen at mA mB
  have HxA := Lib.hid xA
  have HxB := Lib.hid xB
  have hmA : DA.length ≤ 49 := by rw [hlA]; exact Nat.mul_le_mul hra hc
  have hmB : DB.length ≤ 49 := by rw [hlB]; exact Nat.mul_le_mul hrb hc
  clear hlA hlB hgA hgB hpr xA xB
  obtain ⟨z0, z1, z2⟩ := boxes_abz w (.cells #[.int .i64 P, .int .i64 (ra : Int), .int .i64 (c : Int), .slice pA DA.length kA] 26) (.cells #[.int .i64 P, .int .i64 (rb : Int), .int .i64 (c : Int), .slice pB DB.length kB] 26) (.cells #[.int .i64 0, .int .i64 0, .int .i64 0, .slice none 0 0] 26)
  have ZA1 := Lib.hid z0
  have ZB1 := Lib.hid z1
  have ZZ1 := Lib.hid z2
  have HB1 := Lib.hid (below_alloc3 w (.cells #[.int .i64 P, .int .i64 (ra : Int), .int .i64 (c : Int), .slice pA DA.length kA] 26) (.cells #[.int .i64 P, .int .i64 (rb : Int), .int .i64 (c : Int), .slice pB DB.length kB] 26) (.cells #[.int .i64 0, .int .i64 0, .int .i64 0, .slice none 0 0] 26))
  clear z0 z1 z2
  obtain ⟨a0, a1, a2, a3, af, az⟩ := blk4 ZA1.out
  obtain ⟨b0, b1, b2, b3, bf, bz⟩ := blk4 ZB1.out
  go_enter Try.func26, Try.ntmps26
  go_wp2_with fail
  clear a0 a1 a2 a3 af az b0 b1 b2 b3 bf bz
  have hs1 : (((w.alloc (.cells #[.int .i64 P, .int .i64 (ra : Int), .int .i64 (c : Int), .slice pA DA.length kA] 26)).alloc (.cells #[.int .i64 P, .int .i64 (rb : Int), .int .i64 (c : Int), .slice pB DB.length kB] 26)).alloc (.cells #[.int .i64 0, .int .i64 0, .int .i64 0, .slice none 0 0] 26)).heap.size = w.heap.size + 1 + 1 + 1 := by simp
  generalize ((w.alloc (.cells #[.int .i64 P, .int .i64 (ra : Int), .int .i64 (c : Int), .slice pA DA.length kA] 26)).alloc (.cells #[.int .i64 P, .int .i64 (rb : Int), .int .i64 (c : Int), .slice pB DB.length kB] 26)).alloc (.cells #[.int .i64 0, .int .i64 0, .int .i64 0, .slice none 0 0] 26) = w1 at *
  have Hs1 := Lib.hid hs1
  go_loopg [7] ra (fun g s7 wr => ∃ (i N : Nat) (pS : Option Addr) (kS : Nat) (L : List Int), i ≤ ra ∧ g = ra - i ∧ s7 = .int .i64 i ∧ N ≤ 98 ∧ w.heap.size + 1 + 1 + 1 + 1 < wr.heap.size ∧ Hid (Below w1.heap.size w1 wr) ∧ Hid (L = rowsF i (rr c ra DA DB)) ∧ Hid (L.length = N ∧ N = i * (2 * c)) ∧
    Hid (wr.heap[w.heap.size + 1 + 1 + 1 + 1]? = some (.cells #[.int .i64 P, .int .i64 ((ra : Int) + (rb : Int)), .int .i64 (2 * (c : Int)), .slice pS N kS] 26 (0, 0))) ∧ Hid (OwnF wr (w.heap.size + 1 + 1 + 1) wr.heap.size 3 (.slice pS N kS) N (iv L)))

  case atStart =>
    have h0 : (w1.alloc (.cells #[] 3)).heap.size = w.heap.size + 1 + 1 + 1 + 1 := by simp [Hs1.out]
    have hm0 := OwnF.made0 w1 3 (iv [])
    rw [Hs1.out] at hm0
    refine ⟨0, 0, some ⟨w.heap.size + 1 + 1 + 1, 0, none⟩, 0, [], Nat.zero_le _, rfl, rfl, by omega, by simp [Hs1.out], below_alloc2 _ _ _, rfl, ⟨rfl, by simp⟩, ?_, ?_⟩
    · unfold Hid
      exact heap_alloc_at _ _ h0.symm
    · exact (hm0.below (below_alloc _ _)).mono (Nat.le_refl _) (by simp [Hs1.out])
  case round =>
    clear hs1
    obtain ⟨i, N, pS, kS, L, hi, rfl, rfl, hN, hsz, hbx, hL, hLN, hq, ho⟩ := hrel
    have ZAx := Lib.hid (blk_later ZA1.out hbx.out)
    have ZBx := Lib.hid (blk_later ZB1.out hbx.out)
    obtain ⟨a0, a1, a2, a3, af, az⟩ := blk4 ZAx.out
    obtain ⟨b0, b1, b2, b3, bf, bz⟩ := blk4 ZBx.out
    obtain ⟨q0, q1, q2, q3, qf', qz⟩ := blk4 hq.out
    have HBx := Lib.hid (HB1.out.trans (hbx.out.mono HB1.out.size))
    by_cases hia : i < ra
    · obtain ⟨K1, hK1, r1, r2⟩ := mul_named i c (by have := Nat.mul_le_mul (show i ≤ 7 by omega) hc; omega)
      have R1 := Lib.hid r1
      have R2 := Lib.hid r2
      clear r1 r2
      have hK49 : K1 + c ≤ DA.length := by
        have := mul_le_of (C := c) hia
        rw [Nat.add_mul, Nat.one_mul, ← HlA.out, ← hK1] at this
        exact this
      obtain ⟨bl, off, rfl, _⟩ := HxA.out (by omega)
      have hrow := row_part (HdA.out.below HBx.out) HlA.out hK1 hia lA HmA.out
      have Hrow := Lib.hid hrow
      have hKc : ¬ kA = K1 := by omega
      have F1 := Lib.hid (w64 (n := (K1 : Int) + (c : Int)) (by omega) (by omega))
      have F2 := Lib.hid (k64 (n := (K1 : Int) + (c : Int)) (by omega) (by omega))
      have hi1 : (0 : Int) ≤ (K1 : Int) := by omega
      have hi2 : (K1 : Int) ≤ (K1 : Int) + (c : Int) := by omega
      have hi3 : (K1 : Int) + (c : Int) ≤ (kA : Int) := by omega
      have hi4 : ((K1 : Int) + (c : Int)).toNat = K1 + c := by omega
      have hi5 : (K1 : Int).toNat = K1 := by omega
      have hia2 : (i : Int) < (ra : Int) := by omega
      have Hb1 := Lib.hid (show N + c ≤ maxLen by unfold maxLen; omega)
      have Hb2 := Lib.hid (show (N + c) * 8 ≤ 140737488355328 by omega)
      have Hb3 := Lib.hid (show N + c + c ≤ maxLen by unfold maxLen; omega)
      have Hb4 := Lib.hid (show (N + c + c) * 8 ≤ 140737488355328 by omega)
      have Hlo := Lib.hid (show w.heap.size + 1 + 1 + 1 ≤ wr.heap.size by omega)
      have hqo := own_box ho.out hq.out (by decide)
      obtain ⟨wx, rfl⟩ : ∃ x : World, x = wr := ⟨_, rfl⟩
      have HK1 := Lib.hid hK1
      have Hqo := Lib.hid hqo
      clear hrow hK1 hqo
      have Hle1 := Lib.hid (show w.heap.size ≤ w.heap.size + 1 + 1 + 1 by omega)
      have Hle2 := Lib.hid (show w.heap.size ≤ wx.heap.size by omega)
      have Hqn := Lib.hid hsz
      have r1 := R1.out
      have f1 := F1.out
      go_wp2_with (at_builtin; first
        | (refine wpList_append_F rfl (.tmp 45) (.tmp 46) 22 rfl 3 (.int .i64 0) 8 Try.underlying22 info_int rfl (w.heap.size + 1 + 1 + 1) wx.heap.size _ N (iv L) rfl ho.out Hlo.out (Nat.le_refl _) _ c _ rfl Hrow.out (fun j _ => iv_one _ _) Hb1.out Hb2.out ?_; clear r1 f1; intro v1 wv1 ho1 hg1; obtain ⟨p1, k1, rfl, _, _⟩ := ho1.shape; have hbw1 := HBx.out.trans (grownBy_below hg1 ho.out.blocks Hle1.out Hle2.out); have hrow1 := row_part (HdA.out.below hbw1) HlA.out HK1.out hia lA HmA.out; have hq1 := (hg1.block _ Hqn.out (fun e => Hqo.out e.symm)).trans hq.out; have hqo1 := own_box ho1 hq1 (by decide); have hlo1 := Nat.le_trans Hlo.out hg1.size; have hqn1 := Nat.lt_of_lt_of_le Hqn.out hg1.size; have hle1 := Nat.le_trans Hle2.out hg1.size; obtain ⟨e0, e1, e2, e3, ef, ez⟩ := blk4 hq1; have Ho1 := Lib.hid ho1; have Hrow1 := Lib.hid hrow1; have Hg1 := Lib.hid hg1; have Hbw1 := Lib.hid hbw1; have Hq1 := Lib.hid hq1; have Hqo1 := Lib.hid hqo1; clear ho1 hrow1 hg1 hbw1 hq1 hqo1 q0 q1 q2 q3 qf' qz)
        | (go_must (refine wpList_append_F rfl (.tmp 47) (.tmp 48) 22 rfl 3 (.int .i64 0) 8 Try.underlying22 info_int rfl (w.heap.size + 1 + 1 + 1) wv1.heap.size _ (N + c) _ rfl Ho1.out hlo1 (Nat.le_refl _) _ c _ rfl Hrow1.out (fun j _ => iv_one _ _) Hb3.out Hb4.out ?_; intro v2 wv2 ho2 hg2; obtain ⟨p2, k2, rfl, _, _⟩ := ho2.shape; have hbw2 := Hbw1.out.trans (grownBy_below hg2 Ho1.out.blocks Hle1.out hle1); have hq2 := (hg2.block _ hqn1 (fun e => Hqo1.out e.symm)).trans Hq1.out; have hqo2 := own_box ho2 hq2 (by decide); have hqn2 := Nat.lt_of_lt_of_le hqn1 hg2.size; obtain ⟨g0, g1, g2, g3, gf, gz⟩ := blk4 hq2; have Ho2 := Lib.hid ho2; have Hg2 := Lib.hid hg2; have Hbw2 := Lib.hid hbw2; have Hq2 := Lib.hid hq2; have Hqo2 := Lib.hid hqo2; clear ho2 hg2 hbw2 hq2 hqo2 e0 e1 e2 e3 ef ez)))
      clear g0 g1 g2 g3 gf gz a0 a1 a2 a3 af az b0 b1 b2 b3 bf bz
      have hs1 := Hs1.out
      have hrl : (rowAt c DA i).length = c := rowAt_length (by rw [HlA.out]; exact mul_le_of hia)
      have hgs1 := Hg1.out.size
      have hgs2 := Hg2.out.size
      have hbW : Below w1.heap.size w1 wv2 := (hbx.out.trans (grownBy_below Hg1.out ho.out.blocks (by omega) (by omega))).trans (grownBy_below Hg2.out Ho1.out.blocks (by omega) (by omega))
      obtain ⟨hLl, hLm⟩ := hLN.out
      have hNb : (i + 1) * (2 * c) ≤ 7 * 14 := Nat.mul_le_mul (by omega) (by omega)
      have hNe : N + c + c = (i + 1) * (2 * c) := by rw [Nat.succ_mul, ← hLm]; omega
      have hl2 : (L ++ rowAt c DA i).length = N + c := by rw [List.length_append, hLl, hrl]
      have ho3 := own_two (xs := L ++ rowAt c DA i) (ys := rowAt c DA i) hl2 (Ho2.out.congr fun j hj => by
        by_cases e : j < N + c
        · simp only [e, if_true]
          exact iv_append hLl.symm j
        · simp only [e, if_false])
      go_roundg (ra - (i + 1))
      case measure => omega
      case rel =>
        refine ⟨i + 1, N + c + c, p2, k2, (L ++ rowAt c DA i) ++ rowAt c DA i, by omega, rfl, by go_num, by omega, by simp only [size_setCell]; omega, hbW.setCell (by show w1.heap.size ≤ w.heap.size + 1 + 1 + 1 + 1; omega) _, ?_, ⟨by rw [List.length_append, hl2, hrl], hNe⟩, ?_, ?_⟩
        · show (L ++ rowAt c DA i) ++ rowAt c DA i = _
          rw [hL.out, rowsF_succ, List.append_assoc]
          unfold rr
          rw [if_pos hia]
        · unfold Hid
          have := heap_setCell_at Hq2.out 3 (.slice p2 (N + c + c) k2)
          simpa using this
        · unfold Hid
          rw [size_setCell]
          exact ho3.keepB fun k hk => Below.heap_setCell _ _ _ _ (by show k ≠ w.heap.size + 1 + 1 + 1 + 1; exact fun e => Hqo2.out (e ▸ hk))
    · have hie : i = ra := by omega
      have hL' := hL.out
      obtain ⟨hLl, hLm⟩ := hLN.out
      rw [hie] at hL' hLm
      have HL' := Lib.hid hL'
      have HLN' := Lib.hid (And.intro hLl hLm)
      clear hL' hLl hLm hL hLN hie
      obtain ⟨wx, rfl⟩ : ∃ x : World, x = wr := ⟨_, rfl⟩
      go_wp2_with fail
      clear q0 q1 q2 q3 qf' qz a0 a1 a2 a3 af az b0 b1 b2 b3 bf bz
      go_loopg [9] rb (fun g s9 wr => ∃ (i N : Nat) (pS : Option Addr) (kS : Nat) (L : List Int), i ≤ rb ∧ g = rb - i ∧ s9 = .int .i64 i ∧ N ≤ 196 ∧ w.heap.size + 1 + 1 + 1 + 1 < wr.heap.size ∧ Hid (Below w1.heap.size w1 wr) ∧ Hid (L = rowsF (ra + i) (rr c ra DA DB)) ∧ Hid (L.length = N ∧ N = (ra + i) * (2 * c)) ∧
        Hid (wr.heap[w.heap.size + 1 + 1 + 1 + 1]? = some (.cells #[.int .i64 P, .int .i64 ((ra : Int) + (rb : Int)), .int .i64 (2 * (c : Int)), .slice pS N kS] 26 (0, 0))) ∧ Hid (OwnF wr (w.heap.size + 1 + 1 + 1) wr.heap.size 3 (.slice pS N kS) N (iv L)))
      case atStart => exact ⟨0, N, pS, kS, L, Nat.zero_le _, rfl, rfl, by omega, hsz, hbx.out, HL'.out, HLN'.out, hq.out, ho.out⟩
      case round =>
        clear hq ho hbx HL' HLN' ZAx ZBx HBx hsz hN
        clear N pS kS L
        obtain ⟨i2, N, pS, kS, L, hi2r, rfl, rfl, hN, hsz, hbx, hL, hLN, hq, ho⟩ := hrel
        have ZAx := Lib.hid (blk_later ZA1.out hbx.out)
        have ZBx := Lib.hid (blk_later ZB1.out hbx.out)
        obtain ⟨a0, a1, a2, a3, af, az⟩ := blk4 ZAx.out
        obtain ⟨b0, b1, b2, b3, bf, bz⟩ := blk4 ZBx.out
        obtain ⟨q0, q1, q2, q3, qf', qz⟩ := blk4 hq.out
        have HBx := Lib.hid (HB1.out.trans (hbx.out.mono HB1.out.size))
        by_cases hib : i2 < rb
        · obtain ⟨K1, hK1, r1, r2⟩ := mul_named i2 c (by have := Nat.mul_le_mul (show i2 ≤ 7 by omega) hc; omega)
          have R1 := Lib.hid r1
          have R2 := Lib.hid r2
          clear r1 r2
          have hK49 : K1 + c ≤ DB.length := by
            have := mul_le_of (C := c) hib
            rw [Nat.add_mul, Nat.one_mul, ← HlB.out, ← hK1] at this
            exact this
          obtain ⟨bl, off, rfl, _⟩ := HxB.out (by omega)
          obtain ⟨wx, rfl⟩ : ∃ x : World, x = wr := ⟨_, rfl⟩
          have hrow := row_part ((HdB.out.below HBx.out).below (w' := wx.drew) (Below.refl _ _).drew) HlB.out hK1 hib lB HmB.out
          have Hrow := Lib.hid hrow
          have hKc : ¬ kB = K1 := by omega
          have F1 := Lib.hid (w64 (n := (K1 : Int) + (c : Int)) (by omega) (by omega))
          have F2 := Lib.hid (k64 (n := (K1 : Int) + (c : Int)) (by omega) (by omega))
          have hi1 : (0 : Int) ≤ (K1 : Int) := by omega
          have hi2 : (K1 : Int) ≤ (K1 : Int) + (c : Int) := by omega
          have hi3 : (K1 : Int) + (c : Int) ≤ (kB : Int) := by omega
          have hi4 : ((K1 : Int) + (c : Int)).toNat = K1 + c := by omega
          have hi5 : (K1 : Int).toNat = K1 := by omega
          have hib2 : (i2 : Int) < (rb : Int) := by omega
          have Hb1 := Lib.hid (show N + c ≤ maxLen by unfold maxLen; omega)
          have Hb2 := Lib.hid (show (N + c) * 8 ≤ 140737488355328 by omega)
          have Hb3 := Lib.hid (show N + c + c ≤ 1000000 by omega)
          have Hlo := Lib.hid (show w.heap.size + 1 + 1 + 1 ≤ wx.heap.size by omega)
          have hqo := own_box ho.out hq.out (by decide)
          have HK1 := Lib.hid hK1
          have Hqo := Lib.hid hqo
          have Hle1 := Lib.hid (show w.heap.size ≤ w.heap.size + 1 + 1 + 1 by omega)
          have Hle2 := Lib.hid (show w.heap.size ≤ wx.heap.size by omega)
          have Hqn := Lib.hid hsz
          have Hod := Lib.hid (ho.out.below (w' := wx.drew) (Below.refl _ _).drew)
          have Hqd := Lib.hid (show wx.drew.heap[w.heap.size + 1 + 1 + 1 + 1]? = _ from hq.out)
          have Hz1 : Hid (∀ u ∈ (Value.int .i64 0).cells.toList, u.oneCell' = true) := Lib.hid (by decide)
          have H8a := Lib.hid (show 8 ≤ 1000 by omega)
          have H8b := Lib.hid (show 0 < 8 by omega)
          clear hrow hK1 hqo
          go_wp2_with fail
          have f1 := R1.out
          have f2 := R2.out
          have f3 := F1.out
          have f4 := F2.out
          go_region_law (first
            | (refine step_append_F rfl (.tmp 58) (.tmp 69) 22 rfl 3 (.int .i64 0) 8 Try.underlying22 info_int rfl (w.heap.size + 1 + 1 + 1) wx.heap.size _ N (iv L) rfl Hod.out Hlo.out (Nat.le_refl _) _ c _ rfl Hrow.out (fun j _ => iv_one _ _) Hb1.out Hb2.out ?_; intro v1 wv1 ho1 hg1; obtain ⟨p1, k1, rfl, _, _⟩ := ho1.shape; have hq1 := (hg1.block _ Hqn.out (fun e => Hqo.out e.symm)).trans Hqd.out; have hqo1 := own_box ho1 hq1 (by decide); have hlo1 := Nat.le_trans Hlo.out hg1.size; have hqn1 := Nat.lt_of_lt_of_le Hqn.out hg1.size; have Ho1 := Lib.hid ho1; have Hg1 := Lib.hid hg1; have Hq1 := Lib.hid hq1; have Hqo1 := Lib.hid hqo1; clear ho1 hg1 hq1 hqo1)
            | (refine step_append_make_F rfl (.tmp 70) (.tmp 71) 22 3 rfl 3 (.int .i64 0) 8 Try.underlying22 Try.underlying3 info_int rfl Hz1.out H8a.out H8b.out (w.heap.size + 1 + 1 + 1) wv1.heap.size _ (N + c) _ rfl Ho1.out hlo1 (Nat.le_refl _) c rfl hc0 Hb3.out ?_; intro v2 wv2 ho2 hg2 hwh2; obtain ⟨p2, k2, rfl, _, _⟩ := ho2.shape; have hq2 := (hg2.block _ hqn1 (fun e => Hqo1.out e.symm)).trans Hq1.out; have hqo2 := own_box ho2 hq2 (by decide); have hqn2 := Nat.lt_of_lt_of_le hqn1 hg2.size; obtain ⟨g0, g1, g2, g3, gf, gz⟩ := blk4 hq2; have Ho2 := Lib.hid ho2; have Hg2 := Lib.hid hg2; have Hq2 := Lib.hid hq2; have Hqo2 := Lib.hid hqo2; clear ho2 hg2 hq2 hqo2 hwh2))
          all_goals clear f1 f2 f3 f4
          all_goals go_wp2_with fail
          all_goals clear g0 g1 g2 g3 gf gz
          all_goals try clear a0 a1 a2 a3 af az b0 b1 b2 b3 bf bz q0 q1 q2 q3 qf' qz
          all_goals have hs1 := Hs1.out
          all_goals have hrl : (rowAt c DB i2).length = c := rowAt_length (by rw [HlB.out]; exact mul_le_of hib)
          all_goals have hgs1 := Hg1.out.size
          all_goals have hgs2 := Hg2.out.size
          all_goals have hbW : Below w1.heap.size w1 wv2 := ((hbx.out.drew).trans (grownBy_below Hg1.out Hod.out.blocks (by omega) (by show w1.heap.size ≤ wx.heap.size; omega))).trans (grownBy_below Hg2.out Ho1.out.blocks (by omega) (by have : wx.drew.heap.size = wx.heap.size := rfl; omega))
          all_goals obtain ⟨hLl, hLm⟩ := hLN.out
          all_goals have hNb : (ra + i2 + 1) * (2 * c) ≤ 14 * 14 := Nat.mul_le_mul (by omega) (by omega)
          all_goals have hNe : N + c + c = (ra + i2 + 1) * (2 * c) := by rw [Nat.succ_mul, ← hLm]; omega
          all_goals have hl2 : (L ++ rowAt c DB i2).length = N + c := by rw [List.length_append, hLl, hrl]
          all_goals have ho3 := own_two (xs := L ++ rowAt c DB i2) (ys := List.replicate c 0) hl2 (Ho2.out.congr fun j hj => by
            by_cases e : j < N + c
            · simp only [e, if_true]
              exact iv_append hLl.symm j
            · simp only [e, if_false]
              unfold iv
              rw [List.getD_eq_getElem?_getD, List.getElem?_replicate, if_pos (by omega)]
              rfl)
          all_goals go_roundg (rb - (i2 + 1))
          all_goals first
            | omega
            | (refine ⟨i2 + 1, N + c + c, p2, k2, (L ++ rowAt c DB i2) ++ List.replicate c 0, by omega, rfl, by go_num, by omega, by simp only [size_setCell]; have : wx.drew.heap.size = wx.heap.size := rfl; omega, hbW.setCell (by show w1.heap.size ≤ w.heap.size + 1 + 1 + 1 + 1; omega) _, ?_, ⟨by rw [List.length_append, hl2, List.length_replicate], hNe⟩, ?_, ?_⟩
               · show (L ++ rowAt c DB i2) ++ List.replicate c 0 = rowsF (ra + i2 + 1) _
                 rw [hL.out, rowsF_succ, List.append_assoc]
                 unfold rr
                 rw [if_neg (by omega), Nat.add_sub_cancel_left]
               · unfold Hid
                 have := heap_setCell_at Hq2.out 3 (.slice p2 (N + c + c) k2)
                 simpa using this
               · unfold Hid
                 rw [size_setCell]
                 exact ho3.keepB fun k hk => Below.heap_setCell _ _ _ _ (by show k ≠ w.heap.size + 1 + 1 + 1 + 1; exact fun e => Hqo2.out (e ▸ hk)))
        · have hie : i2 = rb := by omega
          have hL' := hL.out
          obtain ⟨hLl, hLm⟩ := hLN.out
          rw [hie] at hL' hLm
          have hll : L.length = (ra + rb) * (2 * c) := hLl.trans hLm
          have hlr : ∀ t, 0 ≤ L.getD t 0 ∧ L.getD t 0 < P := by rw [hL']; exact rr_rng (by omega) HlA.out HlB.out HgA.out HgB.out
          have ho2 : OwnF wr (w.heap.size + 1 + 1 + 1) wr.heap.size 3 (.slice pS N kS) L.length (iv L) := by rw [hLl]; exact ho.out
          have hcl := l7Reduce_any P (ra + rb) (2 * c) _ L wr (OwnI.ints ho2.ints) hll hlr Hpr.out (by omega) (by omega)
          rw [show ((ra + rb : Nat) : Int) = (ra : Int) + (rb : Int) by omega, show ((2 * c : Nat) : Int) = 2 * (c : Int) by omega] at hcl
          have Hcl := Lib.hid hcl
          have HL' := Lib.hid hL'
          clear hcl hL' hLl hLm hll hlr hie ho2
          obtain ⟨wx, rfl⟩ : ∃ x : World, x = wr := ⟨_, rfl⟩
          go_wp2_with fail
          refine Hcl.out.mono ?_
          rintro e w5 ⟨u, v, h, n, qf, rfl, hu, hv, hb5, hn, hrg5, hred, hasc, hzz, hsame⟩
          have hb5' := hb5
          have Hb5 : Hid (Below wx.heap.size wx w5) := Lib.hid hb5'
          obtain ⟨NU, hNU⟩ : ∃ N, N = (ra + rb) * (2 * c) := ⟨_, rfl⟩
          rw [← hNU] at hu
          obtain ⟨pu, ku, rfl, hku1, hku2⟩ := hu.shape
          obtain ⟨pv, kv, rfl, hkv1, hkv2⟩ := hv.shape
          unfold maxLen at hkv2
          have hku3 := hku2.1
          have Hku := Lib.hid hku2
          unfold maxLen at hku3
          have Hu := Lib.hid hu
          have Hv := Lib.hid hv
          have HNU := Lib.hid hNU
          have Hred : Hid (IsRed P (2 * c) (ra + rb) (mtM c ra (mf c fun t => DA.getD t 0) (mf c fun t => DB.getD t 0)) n (mf (2 * c) h) qf) := by
            refine ⟨hred, hasc, fun i j hi hj => hrg5 i j (by omega) hj, ?_⟩
            refine (SameSp.of_eqv fun i hi => .of_eq fun j hj => ?_).trans hsame
            show mtM c ra _ _ i j = L.getD (i * (2 * c) + j) 0
            rw [HL'.out, rowsF_getD (rr_length HlA.out HlB.out) hi hj]
            exact (rr_mt HlA.out HlB.out hi hj).symm
          have hs5 := hb5.size
          have ZA5 := Lib.hid (blk_later ZAx.out hb5)
          have ZB5 := Lib.hid (blk_later ZBx.out hb5)
          have HB5 := Lib.hid (HBx.out.trans (hb5.mono HBx.out.size))
          clear hu hv hb5 hb5' hrg5 hred hasc hzz hsame hNU q0 q1 q2 q3 qf' qz a0 a1 a2 a3 af az b0 b1 b2 b3 bf bz
          have hn14 : n ≤ 14 := by omega
          have Ho5 := Lib.hid (below_alloc w5 (.cells #[.int .i64 P, .int .i64 ((ra : Int) + (rb : Int)), .int .i64 (2 * (c : Int)), .slice pu NU ku] 26))
          obtain ⟨a0, a1, a2, a3, af, az⟩ := blk4 (blk_later ZA5.out Ho5.out)
          go_wp2_with fail
          clear a0 a1 a2 a3 af az
          go_loopg [13] n (fun g s13 wr => ∃ (i NK nk : Nat) (pS : Option Addr) (kS : Nat) (L3 : List Int), i ≤ n ∧ g = n - i ∧ s13 = .int .i64 i ∧ NK ≤ 98 ∧ nk ≤ i ∧ w5.heap.size + 1 + 1 < wr.heap.size ∧ Hid (Below w5.heap.size w5 wr) ∧ Hid (nk = (keptL i c qf).length ∧ L3 = (keptL i c qf).flatMap (rowH c h) ∧ L3.length = NK ∧ NK = nk * c) ∧
            Hid (wr.heap[w5.heap.size + 1 + 1]? = some (.cells #[.int .i64 P, .int .i64 (nk : Int), .int .i64 (c : Int), .slice pS NK kS] 26 (0, 0))) ∧ Hid (wr.heap[w5.heap.size]? = some (.cells #[.int .i64 P, .int .i64 ((ra : Int) + (rb : Int)), .int .i64 (2 * (c : Int)), .slice pu NU ku] 26 (0, 0))) ∧ Hid (OwnF wr (w5.heap.size + 1) wr.heap.size 3 (.slice pS NK kS) NK (iv L3)))
          case atStart =>
            have hbb := below_alloc3 w5 (.cells #[.int .i64 P, .int .i64 ((ra : Int) + (rb : Int)), .int .i64 (2 * (c : Int)), .slice pu NU ku] 26) (.cells #[] 3) (.cells #[.int .i64 P, .int .i64 0, .int .i64 (c : Int), .slice (some ⟨w5.heap.size + 1, 0, none⟩) 0 0] 26)
            have hm0 := OwnF.made0 (w5.alloc (.cells #[.int .i64 P, .int .i64 ((ra : Int) + (rb : Int)), .int .i64 (2 * (c : Int)), .slice pu NU ku] 26)) 3 (iv [])
            have e1 : (w5.alloc (.cells #[.int .i64 P, .int .i64 ((ra : Int) + (rb : Int)), .int .i64 (2 * (c : Int)), .slice pu NU ku] 26)).heap.size = w5.heap.size + 1 := by simp
            rw [e1] at hm0
            obtain ⟨z0, z1, z2⟩ := boxes_abz w5 (.cells #[.int .i64 P, .int .i64 ((ra : Int) + (rb : Int)), .int .i64 (2 * (c : Int)), .slice pu NU ku] 26) (.cells #[] 3) (.cells #[.int .i64 P, .int .i64 0, .int .i64 (c : Int), .slice (some ⟨w5.heap.size + 1, 0, none⟩) 0 0] 26)
            exact ⟨0, 0, 0, some ⟨w5.heap.size + 1, 0, none⟩, 0, [], Nat.zero_le _, rfl, rfl, by omega, Nat.le_refl _, by simp, hbb, ⟨rfl, rfl, rfl, by omega⟩, z2, z0, (hm0.below (below_alloc _ _)).mono (Nat.le_refl _) (by simp)⟩
          case round =>
            obtain ⟨i3, NK, nk, pS3, kS3, L3, hi3, rfl, rfl, hNK, hnk, hsz3, hb3, hdat, hq3, hq10, ho3⟩ := hrel
            have ZA3 := Lib.hid (blk_later ZA5.out hb3.out)
            have HB3 := Lib.hid (HB5.out.trans (hb3.out.mono HB5.out.size))
            have Hu3 := Lib.hid (Hu.out.below hb3.out)
            have Hv3 := Lib.hid (Hv.out.below hb3.out)
            obtain ⟨a0, a1, a2, a3, af, az⟩ := blk4 ZA3.out
            obtain ⟨q0, q1, q2, q3, qf', qz⟩ := blk4 hq3.out
            obtain ⟨t0, t1, t2, t3, tf, tz⟩ := blk4 hq10.out
            by_cases hin : i3 < n
            · obtain ⟨gv, rfl, _, _, _⟩ := Hv3.out.at_ (by omega)
              have cv := Hv3.out.cell hin
              obtain ⟨Q, hQ⟩ : ∃ Q, Q = qf i3 := ⟨_, rfl⟩
              rw [← hQ] at cv
              have HQ := Lib.hid hQ
              have hin2 : (i3 : Int) < (n : Int) := by omega
              obtain ⟨wx, rfl⟩ : ∃ x : World, x = wr := ⟨_, rfl⟩
              clear hQ
              by_cases hcQ : c ≤ Q
              · have hcQ2 : (c : Int) ≤ (Q : Int) := by omega
                have hqo := own_box ho3.out hq3.out (by decide)
                have hqo10 := own_box ho3.out hq10.out (by decide)
                obtain ⟨T1, hT1, r1, r2⟩ := mul_named i3 2 (by omega)
                have R1 : Hid (wrap64 ((i3 : Int) * 2) = (T1 : Int)) := Lib.hid r1
                have R2 : Hid (IntKind.i64.wrap ((i3 : Int) * 2) = (T1 : Int)) := Lib.hid r2
                clear r1 r2
                obtain ⟨T2, hT2, r3, r4⟩ := mul_named T1 c (by have := Nat.mul_le_mul (show T1 ≤ 28 by omega) hc; omega)
                have R3 := Lib.hid r3
                have R4 := Lib.hid r4
                clear r3 r4
                have hT2e : T2 = i3 * (2 * c) := by rw [hT2, hT1, Nat.mul_assoc]
                obtain ⟨K3, hK3⟩ : ∃ K, K = T2 + c := ⟨_, rfl⟩
                have hKb : K3 + c ≤ NU := by
                  have := flat_ltW (n := ra + rb) (C := 2 * c) (i := i3) (c := 2 * c - 1) (by omega) (by omega)
                  rw [← HNU.out] at this
                  omega
                have hNU0 : NU ≤ 196 := by rw [HNU.out]; exact Nat.mul_le_mul (show ra + rb ≤ 14 by omega) (show 2 * c ≤ 14 by omega)
                have hT2l : T2 ≤ 196 := by omega
                obtain ⟨gu, rfl, _, hgu2, _⟩ := Hu3.out.at_ (by omega)
                have F1 := Lib.hid (show wrap64 ((T2 : Int) + (c : Int)) = (K3 : Int) by rw [hK3]; exact (w64 (n := (T2 : Int) + (c : Int)) (by omega) (by omega)).trans (by omega))
                have F2 := Lib.hid (show IntKind.i64.wrap ((T2 : Int) + (c : Int)) = (K3 : Int) by rw [hK3]; exact (k64 (n := (T2 : Int) + (c : Int)) (by omega) (by omega)).trans (by omega))
                have F3 := Lib.hid (show wrap64 ((T2 : Int) + 2 * (c : Int)) = (K3 : Int) + (c : Int) by rw [hK3]; exact (w64 (n := (T2 : Int) + 2 * (c : Int)) (by omega) (by omega)).trans (by omega))
                have F4 := Lib.hid (show IntKind.i64.wrap ((T2 : Int) + 2 * (c : Int)) = (K3 : Int) + (c : Int) by rw [hK3]; exact (k64 (n := (T2 : Int) + 2 * (c : Int)) (by omega) (by omega)).trans (by omega))
                have F5 := Lib.hid (w64 (n := 2 * (c : Int)) (by omega) (by omega))
                have F6 := Lib.hid (k64 (n := 2 * (c : Int)) (by omega) (by omega))
                have hi1 : (0 : Int) ≤ (K3 : Int) := by omega
                have hi2 : (K3 : Int) ≤ (K3 : Int) + (c : Int) := by omega
                have hi3' : (K3 : Int) + (c : Int) ≤ (ku : Int) := by omega
                have hi4 : ((K3 : Int) + (c : Int)).toNat = K3 + c := by omega
                have hi5 : (K3 : Int).toNat = K3 := by omega
                have hKc : ¬ ku = K3 := by omega
                have Hb1 := Lib.hid (show NK + c ≤ maxLen by unfold maxLen; omega)
                have Hb2 := Lib.hid (show (NK + c) * 8 ≤ 140737488355328 by omega)
                have HK3 := Lib.hid (show K3 = i3 * (2 * c) + c by omega)
                obtain ⟨wy, hwy⟩ : ∃ wy, wy = wx.setCell ⟨w5.heap.size + 1 + 1, 1, none⟩ (.int .i64 ((nk : Int) + 1)) := ⟨_, rfl⟩
                have hsy : wy.heap.size = wx.heap.size := by rw [hwy, size_setCell]
                have hqy : wy.heap[w5.heap.size + 1 + 1]? = some (.cells #[.int .i64 P, .int .i64 ((nk : Int) + 1), .int .i64 (c : Int), .slice pS3 NK kS3] 26 (0, 0)) := by
                  rw [hwy]
                  have := heap_setCell_at hq3.out 1 (.int .i64 ((nk : Int) + 1))
                  simpa using this
                have hqy10 : wy.heap[w5.heap.size]? = some (.cells #[.int .i64 P, .int .i64 ((ra : Int) + (rb : Int)), .int .i64 (2 * (c : Int)), .slice (some ⟨gu, 0, none⟩) NU ku] 26 (0, 0)) := by rw [hwy, Below.heap_setCell _ _ _ _ (by show w5.heap.size ≠ w5.heap.size + 1 + 1; omega)]; exact hq10.out
                have hoy : OwnF wy (w5.heap.size + 1) wx.heap.size 3 (.slice pS3 NK kS3) NK (iv L3) := by
                  rw [hwy]
                  exact ho3.out.keepB fun k hk => Below.heap_setCell _ _ _ _ (by show k ≠ w5.heap.size + 1 + 1; exact fun e => hqo (e ▸ hk))
                have hby : Below w5.heap.size w5 wy := by rw [hwy]; exact hb3.out.setCell (by show w5.heap.size ≤ w5.heap.size + 1 + 1; omega) _
                have huy := Hu.out.below hby
                have hrow : Rd wy.drew (.slice (some ⟨gu, K3, none⟩) c (ku - K3)) c (iv (rowH c h i3)) := by
                  have := Rd.part (huy.below (w' := wy.drew) (Below.refl _ _).drew).rd K3 c (ku - K3) hKb (by omega) (by have := Hku.out; omega)
                  rw [Nat.zero_add] at this
                  refine this.congr fun j hj => ?_
                  unfold iv rowH
                  rw [HK3.out]
                  simp [List.getD_eq_getElem?_getD, hj]
                have Hrow := Lib.hid hrow
                have Hqy := Lib.hid hqy
                have Hqy10 := Lib.hid hqy10
                have Hoy := Lib.hid (hoy.below (w' := wy.drew) (Below.refl _ _).drew)
                have Hby := Lib.hid hby
                have Hqo := Lib.hid hqo
                have Hqo10 := Lib.hid hqo10
                have Hwy := Lib.hid hwy
                have Hlo := Lib.hid (show w5.heap.size + 1 ≤ wy.heap.size by omega)
                have Hqn := Lib.hid (show w5.heap.size + 1 + 1 < wy.heap.size by omega)
                have Hqn10 := Lib.hid (show w5.heap.size < wy.heap.size by omega)
                have hhi : wx.heap.size ≤ wy.heap.size := by omega
                have Hhi := Lib.hid hhi
                have Hqyd := Lib.hid (show wy.drew.heap[w5.heap.size + 1 + 1]? = _ from hqy)
                have Hqyd10 := Lib.hid (show wy.drew.heap[w5.heap.size]? = _ from hqy10)
                clear hrow hqy hqy10 hoy hby huy hqo hqo10 hwy hhi hT1 hT2 hT2e hK3
                go_wp2_with fail
                rw [← Hwy.out]
                clear q0 q1 q2 q3 qf' qz t0 t1 t2 t3 tf tz a0 a1 a2 a3 af az cv
                obtain ⟨q0, q1, q2, q3, qf', qz⟩ := blk4 Hqy.out
                obtain ⟨t0, t1, t2, t3, tf, tz⟩ := blk4 Hqy10.out
                have r1 := R1.out
                have r2 := R2.out
                have r3 := R3.out
                have r4 := R4.out
                have f1 := F1.out
                have f2 := F2.out
                have f3 := F3.out
                have f4 := F4.out
                have f5 := F5.out
                have f6 := F6.out
                go_region_law (refine step_append_F rfl (.tmp 101) (.tmp 117) 22 rfl 3 (.int .i64 0) 8 Try.underlying22 info_int rfl (w5.heap.size + 1) wx.heap.size _ NK (iv L3) rfl Hoy.out Hlo.out Hhi.out _ c _ rfl Hrow.out (fun j _ => iv_one _ _) Hb1.out Hb2.out ?_; intro v1 wv1 ho1 hg1; obtain ⟨p1, k1, rfl, _, _⟩ := ho1.shape; have hq1 := (hg1.block _ Hqn.out (fun e => Hqo.out e.symm)).trans Hqyd.out; have hq10 := (hg1.block _ Hqn10.out (fun e => Hqo10.out e.symm)).trans Hqyd10.out; have hqo1 := own_box ho1 hq1 (by decide); obtain ⟨g0, g1, g2, g3, gf, gz⟩ := blk4 hq1; have Ho1 := Lib.hid ho1; have Hg1 := Lib.hid hg1; have Hq1 := Lib.hid hq1; have Hq10' := Lib.hid hq10; have Hqo1 := Lib.hid hqo1; clear ho1 hg1 hq1 hq10 hqo1)
                all_goals clear r1 r2 r3 r4 f1 f2 f3 f4 f5 f6
                all_goals go_wp2_with fail
                all_goals clear g0 g1 g2 g3 gf gz
                all_goals try clear q0 q1 q2 q3 qf' qz t0 t1 t2 t3 tf tz
                all_goals have hdd : wy.drew.heap.size = wy.heap.size := rfl
                all_goals have hgs1 := Hg1.out.size
                all_goals obtain ⟨d1, d2, d3, d4⟩ := hdat.out
                all_goals have hNb : (nk + 1) * c ≤ 14 * 7 := Nat.mul_le_mul (by omega) hc
                all_goals have hNe : NK + c = (nk + 1) * c := by rw [Nat.succ_mul, ← d4]
                all_goals have hks : keptL (i3 + 1) c qf = keptL i3 c qf ++ [i3] := by rw [keptL_succ, if_pos (by rw [← HQ.out]; exact hcQ)]
                all_goals have ho2 := own_two (xs := L3) (ys := rowH c h i3) d3 Ho1.out
                all_goals have hbW : Below w5.heap.size w5 wv1 := (Hby.out.drew).trans (grownBy_below Hg1.out Hoy.out.blocks (by omega) (by omega))
                all_goals go_roundg (n - (i3 + 1))
                all_goals first
                  | omega
                  | (refine ⟨i3 + 1, NK + c, nk + 1, p1, k1, L3 ++ rowH c h i3, by omega, rfl, by go_num, by omega, by omega, by simp only [size_setCell]; omega, hbW.setCell (by show w5.heap.size ≤ w5.heap.size + 1 + 1; omega) _, ⟨by rw [hks, List.length_append, d1]; rfl, by rw [hks, List.flatMap_append, d2]; simp, by rw [List.length_append, rowH_length, d3], hNe⟩, ?_, ?_, ?_⟩
                     · unfold Hid
                       have := heap_setCell_at Hq1.out 3 (.slice p1 (NK + c) k1)
                       rw [show ((nk + 1 : Nat) : Int) = (nk : Int) + 1 by omega]
                       simpa using this
                     · unfold Hid
                       rw [Below.heap_setCell _ _ _ _ (by show w5.heap.size ≠ w5.heap.size + 1 + 1; omega)]
                       exact Hq10'.out
                     · unfold Hid
                       rw [size_setCell]
                       exact ho2.keepB fun k hk => Below.heap_setCell _ _ _ _ (by show k ≠ w5.heap.size + 1 + 1; exact fun e => Hqo1.out (e ▸ hk)))
              · have hcQ2 : ¬ (c : Int) ≤ (Q : Int) := by omega
                have hcQ3 : decide ((c : Int) ≤ (Q : Int)) = false := decide_eq_false hcQ2
                go_wp2_with fail
                go_roundg (n - (i3 + 1))
                case measure => omega
                case rel =>
                  have hk : keptL (i3 + 1) c qf = keptL i3 c qf := by rw [keptL_succ, if_neg (by rw [← HQ.out]; exact hcQ), List.append_nil]
                  refine ⟨i3 + 1, NK, nk, pS3, kS3, L3, by omega, rfl, by go_num, hNK, by omega, hsz3, hb3.out, ?_, hq3.out, hq10.out, ho3.out⟩
                  unfold Hid
                  rw [hk]; exact hdat.out
            · have hie : i3 = n := by omega
              obtain ⟨d1, d2, d3, d4⟩ := hdat.out
              rw [hie] at d1 d2
              have hll : L3.length = nk * c := d3.trans d4
              have hgd : ∀ t j, t < nk → j < c → L3.getD (t * c + j) 0 = mf (2 * c) h ((keptL n c qf).getD t 0) (c + j) := fun t j ht hj => by
                rw [d2, flatMap_getD (rowH_length c h) _ t j (by omega) hj]
                unfold rowH mf
                simp [List.getD_eq_getElem?_getD, hj, Nat.add_assoc]
              have hlr : ∀ t, 0 ≤ L3.getD t 0 ∧ L3.getD t 0 < P := fun t => by
                by_cases e : t < nk * c
                · have h1 : t / c < nk := Nat.div_lt_of_lt_mul (by rw [Nat.mul_comm]; exact e)
                  have h2 : t % c < c := Nat.mod_lt _ (by omega)
                  have h3 : t = t / c * c + t % c := by rw [Nat.mul_comm]; exact (Nat.div_add_mod _ _).symm
                  rw [h3, hgd _ _ h1 h2]
                  exact Hred.out.2.2.1 _ _ (keptL_lt (by omega)) (by omega)
                · rw [getD_out (by omega)]; omega
              have ho4 : OwnF wr (w5.heap.size + 1) wr.heap.size 3 (.slice pS3 NK kS3) L3.length (iv L3) := by rw [d3]; exact ho3.out
              have hcl := l7Span_any P nk c _ L3 wr (OwnI.ints ho4.ints) hll hlr Hpr.out (by omega) (by omega)
              have Hcl := Lib.hid hcl
              have Hgd := Lib.hid hgd
              have Hd1 := Lib.hid d1
              have hs1 := Hs1.out
              have ZZ3 := Lib.hid (blk_later (blk_later (blk_later ZZ1.out hbx.out) Hb5.out) hb3.out)
              clear hcl hgd d1 d2 d3 d4 hll hlr hie ho4 t0 t1 t2 t3 tf tz
              clear hs1
              go_wp2_with fail
              refine Hcl.out.mono ?_
              rintro e w6 ⟨nm, M, qm, hredm, hnm, u6, rfl, ho6', hb6⟩
              obtain ⟨FL, hFL⟩ : ∃ FL, FL = flatM nm c M := ⟨_, rfl⟩
              have ho6 : OwnI 3 w6 wr.heap.size w6.heap.size u6 FL := by rw [hFL]; exact ho6'
              clear ho6'
              obtain ⟨p6, k6, rfl, _, _⟩ := ho6.shape
              have Ho6 := Lib.hid ho6
              have HFL := Lib.hid hFL
              have Hredm := Lib.hid hredm
              have hs6 := hb6.size
              have hs3 := HB3.out.size
              have HB6 := Lib.hid (HB3.out.trans (hb6.mono HB3.out.size))
              have ZZ6 := Lib.hid (blk_later ZZ3.out hb6)
              rw [← HFL.out]
              clear ho6 hFL hredm hb6 a0 a1 a2 a3 af az q0 q1 q2 q3 qf' qz
              obtain ⟨d0, d1, d2, d3, df, dz⟩ := blk4 ZZ6.out
              obtain ⟨f0, f1, f2, f3, ff, fz⟩ := blk4 (set4_all ZZ6.out (.int .i64 P) (.int .i64 (nm : Int)) (.int .i64 (c : Int)) (.slice p6 FL.length k6))
              go_wp2_with fail
              have hwr3 : w.heap.size + 1 + 1 + 1 ≤ wr.heap.size := by have := Hs1.out; have := hbx.out.size; have := Hb5.out.size; have := hb3.out.size; omega
              refine bodyPost_ret (v := .agg #[.int .i64 P, .int .i64 (nm : Int), .int .i64 (c : Int), .slice p6 FL.length k6]) (by simp [results, Try.results26, go_sem, f0, f1, f2, f3, fz]) rfl ⟨⟨P, nm, c, FL⟩, ⟨_, rfl, ?_, ?_⟩, n, mf (2 * c) h, qf, Hred.out, nm, M, qm, ?_, by rw [HFL.out]⟩
              · exact (own_set4 Ho6.out (.inl (by omega)) _ _ _ _).mono (by omega) (by simp only [size_setCell]; omega)
              · exact below_set4 HB6.out (by omega) _ _ _ _
              · rw [← Hd1.out]
                refine ⟨Hredm.out.1, Hredm.out.2.1, Hredm.out.2.2.1, (SameSp.of_eqv fun t ht => .of_eq fun j hj => ?_).trans Hredm.out.2.2.2⟩
                exact (Hgd.out t j ht hj).symm


end Go.Proofs.Ytapmnfakjnhlbaa
