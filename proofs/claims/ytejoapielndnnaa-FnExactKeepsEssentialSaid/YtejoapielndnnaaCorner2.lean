/-
  The program's CornerRank.
-/
import Derived.Test.YtejoapielndnnaaCorner
namespace Go.Proofs.Ytejoapielndnnaa
set_option linter.all false
open Go.RowKit

/-- the first i rows, the first b numbers of each -/
def cutL (c b : Nat) (D : List Int) (i : Nat) : List (List Int) := (List.range i).map fun k => (rowAt c D k).take b
theorem cutL_length (c b : Nat) (D : List Int) (i : Nat) : (cutL c b D i).length = i := by simp [cutL]
theorem cutL_getD {c b : Nat} {D : List Int} {i k : Nat} (h : k < i) : (cutL c b D i).getD k [] = (rowAt c D k).take b := by simp [cutL, List.getD_eq_getElem?_getD, h]
theorem take_getD {xs : List Int} {b j : Nat} (h : j < b) : (xs.take b).getD j 0 = xs.getD j 0 := by simp [List.getD_eq_getElem?_getD, List.getElem?_take, h]
theorem ints_cut {w : World} {p : Option Addr} {n k : Nat} {xs : List Int} {b : Nat} (h : Ints w (.slice p n k) xs) (hb : b ≤ xs.length) : Ints w (.slice p b k) (xs.take b) := by
  obtain ⟨q, cap, e, ⟨h1, h2⟩, hc⟩ := h
  injection e with e1 e2 e3
  subst e1 e3
  have hl : (xs.take b).length = b := by rw [List.length_take]; omega
  refine ⟨p, k, by rw [hl], ⟨by rw [hl]; omega, h2⟩, fun h0 => ?_⟩
  rw [hl] at h0
  obtain ⟨bl, off, e, hx⟩ := hc (by omega)
  refine ⟨bl, off, e, fun j hj => ?_⟩
  rw [hl] at hj
  rw [hx j (by omega), iv, iv, take_getD hj]
theorem corner_rows {P : Int} {r c a b : Nat} {D : List Int} (hlD : D.length = r * c) (hrg : ∀ t, 0 ≤ D.getD t 0 ∧ D.getD t 0 < P) (ha : a ≤ r) (hb : b ≤ c) :
    RowsOk P b (cutL c b D a) ∧ SameSp P b a (mf c fun t => D.getD t 0) (cutL c b D a).length (mt (cutL c b D a)) := by
  have hl : ∀ k, k < a → (rowAt c D k).length = c := fun k hk => rowAt_length (by rw [hlD]; exact mul_le_of (by omega))
  refine ⟨fun i hi => ?_, ?_⟩
  · rw [cutL_length] at hi
    rw [cutL_getD hi]
    have hlen : ((rowAt c D i).take b).length = b := by rw [List.length_take, hl i hi]; omega
    refine ⟨hlen, fun j => ?_⟩
    by_cases hj : j < b
    · rw [take_getD hj, rowAt_getD (by omega)]; exact hrg _
    · rw [getD_out (by omega)]; have := hrg 0; omega
  · rw [cutL_length]
    refine SameSp.of_eqv fun i hi => .of_eq fun j hj => ?_
    unfold mf mt
    dsimp only
    rw [cutL_getD hi, take_getD hj, rowAt_getD (by omega)]

set_option maxRecDepth 100000 in
set_option maxHeartbeats 4000000 in
theorem implCornerRank_yes (P : Int) (r c x y : Nat) (d : Value) (D : List Int) (w : World) (hd : Ints w d D) (h1 : mxOk P r c D = true) (hxr : x ≤ r) (hyc : y ≤ c) :
    Calls Try.prog 34 #[.agg #[.int .i64 P, .int .i64 (r : Int), .int .i64 (c : Int), d], .int .i64 (x : Int), .int .i64 (y : Int)] w fun e w' => ∃ n, e = .returned (.int .i64 n) ∧ CkIs P r c D x y n ∧ Below w.heap.size w w' := by
  have Hd := Lib.hid hd
  obtain ⟨p, cap, rfl, ⟨_, mx⟩, _⟩ := hd
  unfold maxLen at mx
  obtain ⟨r', c', e1, e2, hr, hc0, hc, hlD, hD, hP2, hP7, hpr⟩ := mxOk_facts h1
  have e1 := Int.ofNat.inj e1
  have e2 := Int.ofNat.inj e2
  subst e1 e2
  obtain ⟨hro, hsp⟩ := corner_rows (P := P) hlD (fun t => getD_range hD (by omega) t) hxr hyc
  have H1 := Lib.hid h1
  have HlD := Lib.hid hlD
  have Hpr := Lib.hid hpr
  have Hro := Lib.hid hro
  have Hsp := Lib.hid hsp
  have hx0 : decide ((x : Int) < 0) = false := decide_eq_false (by omega)
  have hy0 : decide ((y : Int) < 0) = false := decide_eq_false (by omega)
  have hx1 : decide ((r : Int) < (x : Int)) = false := by simp; omega
  have hy1 : decide ((c : Int) < (y : Int)) = false := by simp; omega
  have Z := Lib.hid (heap_alloc_top w (.cells #[.int .i64 P, .int .i64 (r : Int), .int .i64 (c : Int), .slice p D.length cap] 27))
  have Hba := Lib.hid (below_alloc w (.cells #[.int .i64 P, .int .i64 (r : Int), .int .i64 (c : Int), .slice p D.length cap] 27))
  clear h1 hlD hD hpr hro hsp
  go_enter Try.func34, Try.ntmps34
  go_wp2_with fail
  refine (implMatrixOk_b _ _ _ _ _ _ H1.out _ (Hd.out.below Hba.out)).mono ?_
  rintro e w1 ⟨rfl, hbl⟩
  have Hb1 := Lib.hid (Hba.out.trans (hbl.mono (by simp)))
  have Z1 := Lib.hid (blk_later Z.out hbl)
  clear hbl
  obtain ⟨c0, c1, c2, c3, cf, cz⟩ := blk4 Z1.out
  go_wp2_with fail
  have hm0 := OwnF.made0 w1 22 (fun _ => .int .i64 0)
  have hb2 := below_alloc w1 (.cells #[] 22)
  have hs2 : (w1.alloc (.cells #[] 22)).heap.size = w1.heap.size + 1 := by simp
  generalize w1.alloc (.cells #[] 22) = w2 at *
  have hs1 := Hb1.out.size
  have Hb2 := Lib.hid (Hb1.out.trans (hb2.mono hs1))
  refine (lines_any P r c _ D _ (Hd.out.below Hb2.out) (by omega) (by omega) hc0 HlD.out).mono ?_
  rintro e w3 ⟨u, rfl, hoL, hb3⟩
  have hnl := rowsOf_length r c D
  obtain ⟨F, g1, g2, g3⟩ := hoL
  have g1 := g1.cut hnl
  obtain ⟨p2, k2, rfl, hk2, hk2b, _⟩ := g1.shape
  unfold maxLen at hk2b
  have hs3 := hb3.size
  have Hb3 := Lib.hid (Hb2.out.trans (hb3.mono (by omega)))
  have HZ3 := Lib.hid (blk_later (blk_later Z1.out hb2) hb3)
  have G1 := Lib.hid g1
  have G2 := Lib.hid (fun i (hi : i < r) => g2 i (by omega))
  have Hm0 := Lib.hid (hm0.below hb3)
  clear g1 g2 g3 hb3 hnl hm0 hb2 c0 c1 c2 c3 cf cz
  have hxi : (x : Int) ≤ (k2 : Int) := by omega
  go_wp2_with fail
  go_loopg [7, 39] x (fun g s7 s39 wr => ∃ (i : Nat) (f : Nat → Value), i ≤ x ∧ g = x - i ∧ s39 = .int .i64 i ∧ Hid (Below w1.heap.size w3 wr) ∧ w3.heap.size ≤ wr.heap.size ∧
    Hid (∀ b, w1.heap.size + 1 ≤ b → b < w3.heap.size → wr.heap[b]? = w3.heap[b]?) ∧ Hid (OwnF wr w1.heap.size wr.heap.size 22 s7 i f) ∧
    Hid (∀ b, s7.ownBlock = some b → b < w1.heap.size + 1 ∨ w3.heap.size ≤ b) ∧ Hid (∀ k, k < i → ∃ pt kt, F k = .slice pt c kt ∧ f k = .slice pt y kt))
  case atStart =>
    refine ⟨0, fun _ => .int .i64 0, Nat.zero_le _, rfl, rfl, Below.refl _ _, Nat.le_refl _, fun b _ _ => rfl, Hm0.out.mono (Nat.le_refl _) (by omega), fun b hb => .inl ?_, fun k hk => absurd hk (Nat.not_lt_zero _)⟩
    simp [Value.ownBlock] at hb; omega
  case round =>
    obtain ⟨i, f, hi, rfl, rfl, hbx, hsx, hun, hpt, hbk, hrw⟩ := hrel
    obtain ⟨p7, k7, rfl, hk7, hk7b, _⟩ := hpt.out.shape
    unfold maxLen at hk7b
    by_cases hlt : i < x
    · have g1 := G1.out.keep (w' := wr) fun b h1 h2 _ => hun.out b (by omega) h2
      obtain ⟨gb, rfl, _, _, _⟩ := g1.at_ (by omega)
      have d1 := g1.cell (show i < r by omega)
      have hrl : (rowAt c D i).length = c := rowAt_length (by rw [HlD.out]; exact mul_le_of (by omega))
      have hI := G2.out i (by omega)
      rw [rowsOf_getD (show i < r by omega)] at hI
      obtain ⟨pt, kt, et, hnt, hkt⟩ := hI.shapeC hrl
      unfold maxLen at hkt
      rw [et] at d1
      have hyk : (y : Int) ≤ (kt : Int) := by omega
      have Het := Lib.hid et
      have Hd1 := Lib.hid (show i + 1 ≤ maxLen by unfold maxLen; omega)
      have Hd2 := Lib.hid (show (i + 1) * 24 ≤ 140737488355328 by omega)
      clear g1 hI et hrl
      go_wp2_with (at_builtin; go_must (refine wpList_append_G rfl (.tmp 43) (.tmp 47) 63 rfl 22 (.slice none 0 0) 24 Try.underlying63 info_sl rfl w1.heap.size wr.heap.size _ i f rfl (hpt.out.below (below_alloc _ _)) (by simp; omega) (by simp) _ _ _ rfl (rd_one _ _ _ rfl) (fun j _ => rfl) Hd1.out Hd2.out ?_; intro v' w' ho' hg' hw'))
      have hsw := hg'.size
      simp only [size_alloc] at hsw hw'
      have hblk := (hpt.out.below (below_alloc wr (.cells #[.slice pt y kt] 22))).blocks
      go_roundg (x - (i + 1))
      case measure => omega
      case rel =>
        refine ⟨i + 1, _, by omega, rfl, by go_num, hbx.out.trans (((below_alloc wr _).mono (by omega)).trans (grownBy_below hg' hblk (Nat.le_refl _) (by simp; omega))), by omega, fun b h1 h2 => ?_, ho', fun b hb => ?_, fun k hk => ?_⟩
        · rw [hg'.block b (by simp; omega) (fun e => by have := hbk.out b e.symm; omega), heap_alloc_low _ _ (by omega)]
          exact hun.out b h1 h2
        · rcases hw' b hb with h | h
          · exact hbk.out b h
          · exact .inr (by omega)
        · by_cases e : k < i
          · simp only [e, if_true]; exact hrw.out k e
          · obtain rfl : k = i := by omega
            simp only [e, if_false]
            exact ⟨pt, kt, Het.out, rfl⟩
    · obtain rfl : i = x := by omega
      have hII : RdII wr (.slice p7 i k7) (cutL c y D i) := by
        refine ⟨f, by rw [cutL_length]; exact hpt.out.rd, fun k hk => ?_⟩
        rw [cutL_length] at hk
        obtain ⟨pt, kt, e1, e2⟩ := hrw.out k hk
        have hI := (G2.out k (by omega)).keep (w' := wr) fun b h1 h2 _ => hun.out b (by omega) h2
        rw [rowsOf_getD (show k < r by omega), e1] at hI
        rw [cutL_getD hk, e2]
        have hrl : (rowAt c D k).length = c := rowAt_length (by rw [HlD.out]; exact mul_le_of (by omega))
        exact ints_cut (OwnI.ints hI) (by omega)
      have HR := Lib.hid (reduced_any _ (cutL c y D i) y P wr hII Hro.out Hpr.out (by rw [cutL_length]; omega) (by omega))
      have hbm := hbx.out.block w.heap.size (blk_lt Z1.out)
      have HZ := Lib.hid (hbm.trans HZ3.out)
      have HBr := Lib.hid (Hb3.out.trans (hbx.out.mono (by omega)))
      clear hII hbm
      obtain ⟨c0, c1, c2, c3, cf, cz⟩ := blk4 HZ.out
      go_wp2_with fail
      refine HR.out.mono ?_
      rintro e w4 ⟨v, L, q, rfl, hoR, hb4, hR1, hR2, hR3, hR4, hR5⟩
      obtain ⟨pv, kv, rfl, hkv1, hkv2⟩ := hoR.shape
      unfold maxLen at hkv2
      have hnk : HasRank P y i (mf c fun t => D.getD t 0) L.length := ⟨_, _, hR2, hR3, fun a j ha hj => (hR1 a ha).2 j, Hsp.out.trans hR4⟩
      have Hnk := Lib.hid hnk
      have Hb4 := Lib.hid (HBr.out.trans (hb4.mono HBr.out.size))
      clear hoR hb4 hR1 hR2 hR3 hR4 hR5 hnk c0 c1 c2 c3 cf cz
      go_wp2_with fail
      go_ret
      exact ⟨_, rfl, CkIs.yes H1.out hxr hyc Hnk.out, Hb4.out⟩

set_option maxRecDepth 100000 in
set_option maxHeartbeats 4000000 in
theorem implCornerRank_no (P R C : Int) (d : Value) (D : List Int) (a b : Int) (w : World) (hd : Ints w d D) (hno : ¬ (mxOk P R C D = true ∧ (0 ≤ a ∧ a ≤ R) ∧ (0 ≤ b ∧ b ≤ C))) :
    Calls Try.prog 34 #[.agg #[.int .i64 P, .int .i64 R, .int .i64 C, d], .int .i64 a, .int .i64 b] w fun e w' => e = .returned (.int .i64 (-1)) ∧ Below w.heap.size w w' := by
  have Hd := Lib.hid hd
  obtain ⟨p, cap, rfl, ⟨_, mx⟩, _⟩ := hd
  unfold maxLen at mx
  cases h1 : mxOk P R C D with
  | false =>
    have H1 := Lib.hid h1
    clear h1 hno
    have Hba := Lib.hid (below_alloc w (.cells #[.int .i64 P, .int .i64 R, .int .i64 C, .slice p D.length cap] 27))
    have Z := Lib.hid (heap_alloc_top w (.cells #[.int .i64 P, .int .i64 R, .int .i64 C, .slice p D.length cap] 27))
    go_enter Try.func34, Try.ntmps34
    go_wp2_with fail
    refine (implMatrixOk_b _ _ _ _ _ _ H1.out _ (Hd.out.below Hba.out)).mono ?_
    rintro e w1 ⟨rfl, hbl⟩
    have Hb1 := Lib.hid (Hba.out.trans (hbl.mono (by simp)))
    have Z1 := Lib.hid (blk_later Z.out hbl)
    clear hbl
    obtain ⟨c0, c1, c2, c3, cf, cz⟩ := blk4 Z1.out
    go_wp2_with fail
    go_ret
    exact ⟨rfl, Hb1.out⟩
  | true =>
    have H1 := Lib.hid h1
    by_cases a1 : a < 0
    · clear h1 hno
      have Hba := Lib.hid (below_alloc w (.cells #[.int .i64 P, .int .i64 R, .int .i64 C, .slice p D.length cap] 27))
      have Z := Lib.hid (heap_alloc_top w (.cells #[.int .i64 P, .int .i64 R, .int .i64 C, .slice p D.length cap] 27))
      go_enter Try.func34, Try.ntmps34
      go_wp2_with fail
      refine (implMatrixOk_b _ _ _ _ _ _ H1.out _ (Hd.out.below Hba.out)).mono ?_
      rintro e w1 ⟨rfl, hbl⟩
      have Hb1 := Lib.hid (Hba.out.trans (hbl.mono (by simp)))
      have Z1 := Lib.hid (blk_later Z.out hbl)
      clear hbl
      obtain ⟨c0, c1, c2, c3, cf, cz⟩ := blk4 Z1.out
      go_wp2_with fail
      go_ret
      exact ⟨rfl, Hb1.out⟩
    have a2 : decide (a < 0) = false := decide_eq_false a1
    by_cases a3 : R < a
    · clear h1 hno a1
      have Hba := Lib.hid (below_alloc w (.cells #[.int .i64 P, .int .i64 R, .int .i64 C, .slice p D.length cap] 27))
      have Z := Lib.hid (heap_alloc_top w (.cells #[.int .i64 P, .int .i64 R, .int .i64 C, .slice p D.length cap] 27))
      go_enter Try.func34, Try.ntmps34
      go_wp2_with fail
      refine (implMatrixOk_b _ _ _ _ _ _ H1.out _ (Hd.out.below Hba.out)).mono ?_
      rintro e w1 ⟨rfl, hbl⟩
      have Hb1 := Lib.hid (Hba.out.trans (hbl.mono (by simp)))
      have Z1 := Lib.hid (blk_later Z.out hbl)
      clear hbl
      obtain ⟨c0, c1, c2, c3, cf, cz⟩ := blk4 Z1.out
      go_wp2_with fail
      go_ret
      exact ⟨rfl, Hb1.out⟩
    have a4 : decide (R < a) = false := decide_eq_false a3
    by_cases b1 : b < 0
    · clear h1 hno a1 a3
      have Hba := Lib.hid (below_alloc w (.cells #[.int .i64 P, .int .i64 R, .int .i64 C, .slice p D.length cap] 27))
      have Z := Lib.hid (heap_alloc_top w (.cells #[.int .i64 P, .int .i64 R, .int .i64 C, .slice p D.length cap] 27))
      go_enter Try.func34, Try.ntmps34
      go_wp2_with fail
      refine (implMatrixOk_b _ _ _ _ _ _ H1.out _ (Hd.out.below Hba.out)).mono ?_
      rintro e w1 ⟨rfl, hbl⟩
      have Hb1 := Lib.hid (Hba.out.trans (hbl.mono (by simp)))
      have Z1 := Lib.hid (blk_later Z.out hbl)
      clear hbl
      obtain ⟨c0, c1, c2, c3, cf, cz⟩ := blk4 Z1.out
      go_wp2_with fail
      go_ret
      exact ⟨rfl, Hb1.out⟩
    have b2 : decide (b < 0) = false := decide_eq_false b1
    by_cases b3 : C < b
    · clear h1 hno a1 a3 b1
      have Hba := Lib.hid (below_alloc w (.cells #[.int .i64 P, .int .i64 R, .int .i64 C, .slice p D.length cap] 27))
      have Z := Lib.hid (heap_alloc_top w (.cells #[.int .i64 P, .int .i64 R, .int .i64 C, .slice p D.length cap] 27))
      go_enter Try.func34, Try.ntmps34
      go_wp2_with fail
      refine (implMatrixOk_b _ _ _ _ _ _ H1.out _ (Hd.out.below Hba.out)).mono ?_
      rintro e w1 ⟨rfl, hbl⟩
      have Hb1 := Lib.hid (Hba.out.trans (hbl.mono (by simp)))
      have Z1 := Lib.hid (blk_later Z.out hbl)
      clear hbl
      obtain ⟨c0, c1, c2, c3, cf, cz⟩ := blk4 Z1.out
      go_wp2_with fail
      go_ret
      exact ⟨rfl, Hb1.out⟩
    exact absurd ⟨h1, ⟨by omega, by omega⟩, ⟨by omega, by omega⟩⟩ hno

theorem implCornerRank_ex (P R C : Int) (d : Value) (D : List Int) (a b : Int) (w : World) (hd : Ints w d D) :
    Calls Try.prog 34 #[.agg #[.int .i64 P, .int .i64 R, .int .i64 C, d], .int .i64 a, .int .i64 b] w fun e w' => ∃ r, e = .returned (.int .i64 r) ∧ CkIs P R C D a b r ∧ Below w.heap.size w w' := by
  by_cases h : mxOk P R C D = true ∧ (0 ≤ a ∧ a ≤ R) ∧ (0 ≤ b ∧ b ≤ C)
  · obtain ⟨r, c, rfl, rfl, hr, hc0, hc, hlD, hD, hP2, hP7, hpr⟩ := mxOk_facts h.1
    obtain ⟨x, rfl⟩ := Int.eq_ofNat_of_zero_le h.2.1.1
    obtain ⟨y, rfl⟩ := Int.eq_ofNat_of_zero_le h.2.2.1
    exact implCornerRank_yes P r c x y d D w hd h.1 (by omega) (by omega)
  · exact (implCornerRank_no P R C d D a b w hd h).mono fun e w' ⟨h1, h2⟩ => ⟨-1, h1, CkIs.no h, h2⟩

theorem implCornerRank_any (P R C : Int) (d : Value) (D : List Int) (a b : Int) (w : World) (hd : Ints w d D) :
    Calls Try.prog 34 #[.agg #[.int .i64 P, .int .i64 R, .int .i64 C, d], .int .i64 a, .int .i64 b] w fun e w' => e = .returned (.int .i64 (Classical.epsilon (CkIs P R C D a b))) ∧ Below w.heap.size w w' :=
  (implCornerRank_ex P R C d D a b w hd).mono fun e w' ⟨r, h1, h2, h3⟩ => ⟨by rw [h1, h2.eps], h3⟩

end Go.Proofs.Ytejoapielndnnaa
