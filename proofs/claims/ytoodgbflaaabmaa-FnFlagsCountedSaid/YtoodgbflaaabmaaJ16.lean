/-
  The law FnFlagsCounted, walked.
-/
import Derived.Test.YtoodgbflaaabmaaJ15
import Derived.Test.YtoodgbflaaabmaaJ4
namespace Go.Proofs.Ytoodgbflaaabmaa
set_option linter.all false
open Go.RowKit

/-- the list of flags, as the law wants it -/
structure FcL (P : Nat) (xs : List Int) (ms : List Mx) : Prop where
  len : ms.length = P ^ (xs.length * (xs.length - 1) / 2 - lenP xs)
  few : ms.length ≤ 100
  le : lenP xs ≤ xs.length * (xs.length - 1) / 2
  each : ∀ i, i < ms.length → ∃ D, ms.getD i mxZero = ⟨P, xs.length, xs.length, D⟩ ∧ IsFl P xs.length xs.length D ∧ (∀ DM, NfIs P xs.length xs.length D ⟨P, xs.length, xs.length, DM⟩ true → DM = D) ∧ ∀ l, FpIs P xs.length xs.length D l → l = xs
theorem fcL {P : Nat} {xs : List Int} (hp : primeOk P = true) (hx : permOk xs = true) (h2 : 2 ≤ xs.length) (h4 : xs.length ≤ 4) (hP : P = 2 ∨ P = 3 ∧ xs.length < 4) : ∃ ms : List Mx, flMs P xs = (ms, true) ∧ FcL P xs ms := by
  have hc := free_count hx h2 h4
  have hb : P ^ (flF xs xs.length).length ≤ 64 := by
    rcases hP with rfl | ⟨rfl, h3⟩
    · have : (flF xs xs.length).length ≤ 6 := by
        have : xs.length * (xs.length - 1) / 2 ≤ 6 := by
          have : xs.length = 2 ∨ xs.length = 3 ∨ xs.length = 4 := by omega
          rcases this with e | e | e <;> rw [e] <;> decide
        omega
      exact Nat.le_trans (Nat.pow_le_pow_right (by omega) this) (by decide)
    · have : (flF xs xs.length).length ≤ 3 := by
        have : xs.length * (xs.length - 1) / 2 ≤ 3 := by
          have : xs.length = 2 ∨ xs.length = 3 := by omega
          rcases this with e | e <;> rw [e] <;> decide
        omega
      exact Nat.le_trans (Nat.pow_le_pow_right (by omega) this) (by decide)
  refine ⟨fillMs P xs.length xs.length (permRows xs).flatten (flF xs xs.length) (P ^ (flF xs xs.length).length), ?_, ?_, ?_, by omega, fun i hi => ?_⟩
  · rw [flMs_yes hp hx]
    unfold fillB
    rw [Int.toNat_natCast, if_pos (by omega)]
  · rw [fillMs_length, ← hc, Nat.add_sub_cancel]
  · rw [fillMs_length]; omega
  · rw [fillMs_length] at hi
    refine ⟨_, ?_, fill_fl hp hx i, fun DM h => nf_own (fill_fl hp hx i) (by rw [fillSt_length, permRows_flat_length]) (fill_nf hp hx i) h, fun l h => ?_⟩
    · unfold fillMs
      simp [List.getD_eq_getElem?_getD, hi]
    · rw [nf_ownP (fill_fl hp hx i) (fill_nf hp hx i) h, qL_self hx]

set_option maxRecDepth 100000 in
set_option maxHeartbeats 8000000 in
theorem lawFnFlagsCounted (p : Option Addr) (l cap : Nat) (w : World) (hl : l ≤ maxLen) (h : Byts8 w (.slice p l cap) l) :
    Calls Try.prog 3 #[.slice p l cap] w fun e w' => e = .returned (.bool true) ∧ Below w.heap.size w w' := by
  have Hl := Lib.hid hl
  have Hh := Lib.hid h
  clear hl h
  go_enter Try.func3, Try.ntmps3
  go_wp2_with fail
  refine (big_any p l cap _ Hl.out).mono ?_
  rintro e w' ⟨rfl, rfl⟩
  by_cases hb : 1048576 < l
  · have e1 : decide (1048576 < l) = true := by simp [hb]
    rw [e1]
    go_wp2_with fail
    go_ret
    exact ⟨rfl, Below.refl _ _⟩
  · have e1 : decide (1048576 < l) = false := by simp [hb]
    have hl2 : l ≤ 1048576 := by omega
    rw [e1]
    clear e1 hb
    go_wp2_with fail
    refine (DrawSmallPerms_any _ l _ Hh.out.byts).mono ?_
    rintro e w1 ⟨ux, u2, u3, xs, rfl, hi, hpx, hn2, hn4, hb1⟩
    have IX_1 := Lib.hid hi
    have HpX := Lib.hid hpx
    have HB_1 := Lib.hid hb1
    obtain ⟨pX, kX, rfl, ⟨hkX, hkX2⟩, -⟩ := hi
    unfold maxLen at hkX2
    clear hpx hb1
    obtain ⟨m, hm⟩ : ∃ m, m = xs.length - 1 := ⟨_, rfl⟩
    have hm1 : IntKind.i64.wrap ((xs.length : Int) - 1) = (m : Int) := by rw [k64 (by omega) (by omega)]; omega
    obtain ⟨N, hN, H3, H4⟩ := mul_hid xs.length m (Nat.le_trans (Nat.mul_le_mul hn4 (show m ≤ 4 by omega)) (by omega))
    obtain ⟨hf, hhf⟩ : ∃ hf, hf = N / 2 := ⟨_, rfl⟩
    have Hm1 := Lib.hid hm1
    have HN := Lib.hid (show hf = xs.length * (xs.length - 1) / 2 by rw [hhf, hN, hm])
    have Hhf := Lib.hid (show (N : Int).tdiv 2 = (hf : Int) by rw [hhf]; rfl)
    have hhb : hf ≤ 6 := by
      rw [HN.out]
      have : xs.length = 2 ∨ xs.length = 3 ∨ xs.length = 4 := by omega
      rcases this with e | e | e <;> rw [e] <;> decide
    clear hm hm1 hN hhf
    by_cases hn3 : xs.length < 4
    · have hn3i : (xs.length : Int) < 4 := by omega
      have ca := at0_any (.slice p l cap) l 0 w1 (Hh.out.below HB_1.out) hl2 (by omega)
      go_wp2_with fail
      refine ca.mono ?_
      rintro e w2 ⟨x, rfl, hx, rfl⟩
      clear ca
      by_cases hx2 : x % 2 = 0
      · have hr : (x : Int).tmod 2 = 0 := by show ((x % 2 : Nat) : Int) = 0; rw [hx2]; rfl
        go_wp2_with fail
        clear hr
        obtain ⟨ms, hms, hL⟩ := fcL (P := 3) (by decide) HpX.out hn2 hn4 (.inr ⟨rfl, hn3⟩)
        have HmL := Lib.hid hL
        have hfew := hL.few
        clear hL
        refine (implFlagsWith_any 3 _ xs _ IX_1.out).mono ?_
        rintro e w2 ⟨v, rfl, ho, hb⟩
        rw [show flMs 3 xs = (ms, true) from hms] at ho ⊢
        clear hms
        have HM_2 := Lib.hid ho
        have IX_2 := Lib.hid (IX_1.out.below hb)
        have HB_2 := Lib.hid (HB_1.out.trans (hb.mono HB_1.out.size))
        obtain ⟨pM, kM, rfl, hkM, hkM2⟩ := ho.shape
        unfold maxLen at hkM2
        clear ho hb
        have h3 := H3.out
        have h4 := H4.out
        have hm1 := Hm1.out
        have hhf := Hhf.out
        go_wp2_with fail
        clear h3 h4 hm1 hhf
        refine (implLength_any _ xs _ IX_2.out HpX.out).mono ?_
        rintro e w3 ⟨rfl, hb⟩
        have IX_3 := Lib.hid (IX_2.out.below hb)
        have HM_3 := Lib.hid (HM_2.out.below hb)
        have HB_3 := Lib.hid (HB_2.out.trans (hb.mono HB_2.out.size))
        clear hb IX_2 HB_2
        obtain ⟨f, hff⟩ : ∃ f, f = hf - lenP xs := ⟨_, rfl⟩
        have hle : lenP xs ≤ hf := by have := HmL.out.le; rwa [← HN.out] at this
        have Hf := Lib.hid (show ms.length = 3 ^ f by rw [hff, HN.out]; exact HmL.out.len)
        have h5 : IntKind.i64.wrap ((hf : Int) - (lenP xs : Int)) = (f : Int) := by rw [k64 (by omega) (by omega)]; omega
        have hf6 : f ≤ 6 := by omega
        clear hff hle
        go_wp2_with fail
        clear h5
        refine (power_any 3 f ms.length _ Hf.out (by omega) (by omega) (by rw [← Hf.out]; omega)).mono ?_
        rintro e w4 ⟨rfl, rfl⟩
        go_wp2_with fail
        have HB_4 := Lib.hid (show ∃ fM, RdS w3 4 (.slice pM ms.length kM) ms.length (mxF ms fM) ∧ ∀ i, i < ms.length → Ints w3 (fM i) (ms.getD i mxZero).D from HM_3.out.rd)
        obtain ⟨fM, hsM, hfM⟩ := HB_4.out
        obtain ⟨pM', kM', eM, -, hxc⟩ := hsM.four
        injection eM with eM1 _ eM2
        subst eM1 eM2
        have Hxc := Lib.hid hxc
        have HfM := Lib.hid hfM
        clear hsM hfM hxc HB_4 HM_3 HM_2
        go_loopg [10] ms.length (fun n i wr => ∃ k : Nat, k ≤ ms.length ∧ n = ms.length - k ∧ i = .int .i64 k ∧ Hid (Below w3.heap.size w3 wr))
        case atStart => exact ⟨0, Nat.zero_le _, rfl, rfl, Lib.hid (Below.refl _ _)⟩
        case round =>
          obtain ⟨k, hk, rfl, rfl, Hb⟩ := hrel
          obtain ⟨wo, rfl⟩ : ∃ x : World, x = wr := ⟨_, rfl⟩
          by_cases hlt : k < ms.length
          · have hlt2 : (k : Int) < (ms.length : Int) := by omega
            obtain ⟨b, rfl, hc⟩ := Hxc.out (by omega)
            obtain ⟨a0, a1, a2, a3⟩ := hc k hlt
            obtain ⟨D, hD', hfl', hnf', hfp'⟩ := HmL.out.each k hlt
            have hD : ms.getD k mxZero = ⟨3, xs.length, xs.length, D⟩ := hD'
            have Hfl : Hid (IsFl 3 xs.length xs.length D) := Lib.hid hfl'
            have Hnf : Hid (∀ DM, NfIs 3 xs.length xs.length D ⟨3, xs.length, xs.length, DM⟩ true → DM = D) := Lib.hid hnf'
            have Hfp : Hid (∀ l, FpIs 3 xs.length xs.length D l → l = xs) := Lib.hid hfp'
            have hI := HfM.out k hlt
            rw [hD] at a0 a1 a2 hI
            dsimp only at a0 a1 a2 hI
            have hI2 := hI
            obtain ⟨p1, k1, e1, _, _⟩ := hI2
            rw [e1] at a3 hI
            have c0 := cell_below Hb.out a0
            have c1 := cell_below Hb.out a1
            have c2 := cell_below Hb.out a2
            have c3 := cell_below Hb.out a3
            have ID := Lib.hid (hI.below Hb.out)
            have IX := Lib.hid (IX_3.out.below Hb.out)
            clear hc a0 a1 a2 a3 hD hD' hfl' hnf' hfp' hI e1
            go_wp2_with fail
            refine (norm1 3 xs.length _ D _ Hfl.out ID.out).mono ?_
            rintro e w5 ⟨pQ, kQ, DM, rfl, ho, hb5, hnr⟩
            rw [Hnf.out DM hnr] at ho ⊢
            clear hnr
            have hB6 := hb5.trans ((below_alloc w5 (.cells #[.int .i64 3, .int .i64 (xs.length : Int), .int .i64 (xs.length : Int), .slice pQ D.length kQ] 34)).mono hb5.size)
            have hoi := ho.ints
            clear ho
            go_wp2_with fail
            obtain ⟨w6, hw6⟩ : ∃ x : World, x = w5.alloc (.cells #[.int .i64 3, .int .i64 (xs.length : Int), .int .i64 (xs.length : Int), .slice pQ D.length kQ] 34) := ⟨_, rfl⟩
            have hz6 : w6.heap[w5.heap.size]? = some (.cells #[.int .i64 3, .int .i64 (xs.length : Int), .int .i64 (xs.length : Int), .slice pQ D.length kQ] 34) := by rw [hw6]; exact heap_alloc_top _ _
            have hb6 : Below w5.heap.size w5 w6 := by rw [hw6]; exact below_alloc _ _
            rw [← hw6] at hB6 ⊢
            clear hw6
            obtain ⟨m0, m1, m2, m3, _, _⟩ := blk4 hz6
            have IM6 := Lib.hid (hoi.below hb6)
            have ID6 := Lib.hid (ID.out.below hB6)
            have IX6 := Lib.hid (IX.out.below hB6)
            have Hb6 := Lib.hid (Hb.out.trans (hB6.mono Hb.out.size))
            have d0 := cell_below hB6 c0
            have d1 := cell_below hB6 c1
            have d2 := cell_below hB6 c2
            have d3 := cell_below hB6 c3
            clear hoi hb6 hB6 hb5 hz6 c0 c1 c2 c3 ID IX Hb
            go_region_held3 (fun w' => (w'.cell? ⟨w5.heap.size, 0, none⟩ = some (.int .i64 3) ∧ w'.cell? ⟨w5.heap.size, 1, none⟩ = some (.int .i64 (xs.length : Int)) ∧ w'.cell? ⟨w5.heap.size, 2, none⟩ = some (.int .i64 (xs.length : Int)) ∧ w'.cell? ⟨w5.heap.size, 3, none⟩ = some (.slice pQ D.length kQ) ∧ w'.cell? ⟨b, k * 4, none⟩ = some (.int .i64 3) ∧ w'.cell? ⟨b, k * 4 + 1, none⟩ = some (.int .i64 (xs.length : Int)) ∧ w'.cell? ⟨b, k * 4 + 2, none⟩ = some (.int .i64 (xs.length : Int)) ∧ w'.cell? ⟨b, k * 4 + 3, none⟩ = some (.slice p1 D.length k1)) ∧ Below w6.heap.size w6 w')
              (first | exact ⟨⟨m0, m1, m2, m3, d0, d1, d2, d3⟩, (Below.refl _ _).drew⟩ | exact keep8 hb1 (by assumption) | exact keep8 (hq9.below _) (by assumption))
              (first
                | (go_at_call 14; refine (lawMatrices_any _ _ _ _ _ _ _ _ D D _ (held_ints IM6.out (by assumption)) (held_ints ID6.out (by assumption))).mono ?_; rintro e w' ⟨rfl, hb1⟩; rw [show mxSame 3 xs.length xs.length D 3 xs.length xs.length D = true from by simp [mxSame]]; have hBz : Below w6.heap.size w6 w' := below_trans (held_below (by assumption)) hb1)
                | (go_at_call 16; refine (fp1 3 xs.length _ D _ Hfl.out (held_ints ID6.out (by assumption))).mono ?_; rintro e w' ⟨pq, kq, lq, rfl, hoq, hb1, hfq⟩; have hq := hoq.ints; rw [Hfp.out lq hfq] at hq ⊢; have hBz : Below w6.heap.size w6 w' := below_trans (held_below (by assumption)) hb1)
                | (go_at_call 15; refine (lawInts_any _ _ xs xs _ (hq.below (by first | exact Below.refl _ _ | exact (Below.refl _ _).drew)) (held_ints IX6.out (by assumption))).mono ?_; rintro e w' ⟨rfl, hq9⟩; rw [show decide (xs = xs) = true from by simp]; have hBz : Below w6.heap.size w6 w' := below_trans (held_below (by assumption)) (hq9.below _)))
            have HBz : Hid (Below w6.heap.size w6 _) := Lib.hid (held_below (by assumption))
            go_wp2_with fail
            go_roundg (ms.length - (k + 1))
            case measure => omega
            case rel => exact ⟨k + 1, by omega, rfl, by go_num, Lib.hid (Hb6.out.trans (HBz.out.mono Hb6.out.size))⟩
          · go_wp2_with fail
            go_ret
            exact ⟨rfl, HB_3.out.trans (Hb.out.mono HB_3.out.size)⟩
      · have hr : (x : Int).tmod 2 = 1 := by show ((x % 2 : Nat) : Int) = 1; rw [show x % 2 = 1 by omega]; rfl
        go_wp2_with fail
        clear hr
        obtain ⟨ms, hms, hL⟩ := fcL (P := 2) (by decide) HpX.out hn2 hn4 (.inl rfl)
        have HmL := Lib.hid hL
        have hfew := hL.few
        clear hL
        refine (implFlagsWith_any 2 _ xs _ IX_1.out).mono ?_
        rintro e w2 ⟨v, rfl, ho, hb⟩
        rw [show flMs 2 xs = (ms, true) from hms] at ho ⊢
        clear hms
        have HM_2 := Lib.hid ho
        have IX_2 := Lib.hid (IX_1.out.below hb)
        have HB_2 := Lib.hid (HB_1.out.trans (hb.mono HB_1.out.size))
        obtain ⟨pM, kM, rfl, hkM, hkM2⟩ := ho.shape
        unfold maxLen at hkM2
        clear ho hb
        have h3 := H3.out
        have h4 := H4.out
        have hm1 := Hm1.out
        have hhf := Hhf.out
        go_wp2_with fail
        clear h3 h4 hm1 hhf
        refine (implLength_any _ xs _ IX_2.out HpX.out).mono ?_
        rintro e w3 ⟨rfl, hb⟩
        have IX_3 := Lib.hid (IX_2.out.below hb)
        have HM_3 := Lib.hid (HM_2.out.below hb)
        have HB_3 := Lib.hid (HB_2.out.trans (hb.mono HB_2.out.size))
        clear hb IX_2 HB_2
        obtain ⟨f, hff⟩ : ∃ f, f = hf - lenP xs := ⟨_, rfl⟩
        have hle : lenP xs ≤ hf := by have := HmL.out.le; rwa [← HN.out] at this
        have Hf := Lib.hid (show ms.length = 2 ^ f by rw [hff, HN.out]; exact HmL.out.len)
        have h5 : IntKind.i64.wrap ((hf : Int) - (lenP xs : Int)) = (f : Int) := by rw [k64 (by omega) (by omega)]; omega
        have hf6 : f ≤ 6 := by omega
        clear hff hle
        go_wp2_with fail
        clear h5
        refine (power_any 2 f ms.length _ Hf.out (by omega) (by omega) (by rw [← Hf.out]; omega)).mono ?_
        rintro e w4 ⟨rfl, rfl⟩
        go_wp2_with fail
        have HB_4 := Lib.hid (show ∃ fM, RdS w3 4 (.slice pM ms.length kM) ms.length (mxF ms fM) ∧ ∀ i, i < ms.length → Ints w3 (fM i) (ms.getD i mxZero).D from HM_3.out.rd)
        obtain ⟨fM, hsM, hfM⟩ := HB_4.out
        obtain ⟨pM', kM', eM, -, hxc⟩ := hsM.four
        injection eM with eM1 _ eM2
        subst eM1 eM2
        have Hxc := Lib.hid hxc
        have HfM := Lib.hid hfM
        clear hsM hfM hxc HB_4 HM_3 HM_2
        go_loopg [10] ms.length (fun n i wr => ∃ k : Nat, k ≤ ms.length ∧ n = ms.length - k ∧ i = .int .i64 k ∧ Hid (Below w3.heap.size w3 wr))
        case atStart => exact ⟨0, Nat.zero_le _, rfl, rfl, Lib.hid (Below.refl _ _)⟩
        case round =>
          obtain ⟨k, hk, rfl, rfl, Hb⟩ := hrel
          obtain ⟨wo, rfl⟩ : ∃ x : World, x = wr := ⟨_, rfl⟩
          by_cases hlt : k < ms.length
          · have hlt2 : (k : Int) < (ms.length : Int) := by omega
            obtain ⟨b, rfl, hc⟩ := Hxc.out (by omega)
            obtain ⟨a0, a1, a2, a3⟩ := hc k hlt
            obtain ⟨D, hD', hfl', hnf', hfp'⟩ := HmL.out.each k hlt
            have hD : ms.getD k mxZero = ⟨2, xs.length, xs.length, D⟩ := hD'
            have Hfl : Hid (IsFl 2 xs.length xs.length D) := Lib.hid hfl'
            have Hnf : Hid (∀ DM, NfIs 2 xs.length xs.length D ⟨2, xs.length, xs.length, DM⟩ true → DM = D) := Lib.hid hnf'
            have Hfp : Hid (∀ l, FpIs 2 xs.length xs.length D l → l = xs) := Lib.hid hfp'
            have hI := HfM.out k hlt
            rw [hD] at a0 a1 a2 hI
            dsimp only at a0 a1 a2 hI
            have hI2 := hI
            obtain ⟨p1, k1, e1, _, _⟩ := hI2
            rw [e1] at a3 hI
            have c0 := cell_below Hb.out a0
            have c1 := cell_below Hb.out a1
            have c2 := cell_below Hb.out a2
            have c3 := cell_below Hb.out a3
            have ID := Lib.hid (hI.below Hb.out)
            have IX := Lib.hid (IX_3.out.below Hb.out)
            clear hc a0 a1 a2 a3 hD hD' hfl' hnf' hfp' hI e1
            go_wp2_with fail
            refine (norm1 2 xs.length _ D _ Hfl.out ID.out).mono ?_
            rintro e w5 ⟨pQ, kQ, DM, rfl, ho, hb5, hnr⟩
            rw [Hnf.out DM hnr] at ho ⊢
            clear hnr
            have hB6 := hb5.trans ((below_alloc w5 (.cells #[.int .i64 2, .int .i64 (xs.length : Int), .int .i64 (xs.length : Int), .slice pQ D.length kQ] 34)).mono hb5.size)
            have hoi := ho.ints
            clear ho
            go_wp2_with fail
            obtain ⟨w6, hw6⟩ : ∃ x : World, x = w5.alloc (.cells #[.int .i64 2, .int .i64 (xs.length : Int), .int .i64 (xs.length : Int), .slice pQ D.length kQ] 34) := ⟨_, rfl⟩
            have hz6 : w6.heap[w5.heap.size]? = some (.cells #[.int .i64 2, .int .i64 (xs.length : Int), .int .i64 (xs.length : Int), .slice pQ D.length kQ] 34) := by rw [hw6]; exact heap_alloc_top _ _
            have hb6 : Below w5.heap.size w5 w6 := by rw [hw6]; exact below_alloc _ _
            rw [← hw6] at hB6 ⊢
            clear hw6
            obtain ⟨m0, m1, m2, m3, _, _⟩ := blk4 hz6
            have IM6 := Lib.hid (hoi.below hb6)
            have ID6 := Lib.hid (ID.out.below hB6)
            have IX6 := Lib.hid (IX.out.below hB6)
            have Hb6 := Lib.hid (Hb.out.trans (hB6.mono Hb.out.size))
            have d0 := cell_below hB6 c0
            have d1 := cell_below hB6 c1
            have d2 := cell_below hB6 c2
            have d3 := cell_below hB6 c3
            clear hoi hb6 hB6 hb5 hz6 c0 c1 c2 c3 ID IX Hb
            go_region_held3 (fun w' => (w'.cell? ⟨w5.heap.size, 0, none⟩ = some (.int .i64 2) ∧ w'.cell? ⟨w5.heap.size, 1, none⟩ = some (.int .i64 (xs.length : Int)) ∧ w'.cell? ⟨w5.heap.size, 2, none⟩ = some (.int .i64 (xs.length : Int)) ∧ w'.cell? ⟨w5.heap.size, 3, none⟩ = some (.slice pQ D.length kQ) ∧ w'.cell? ⟨b, k * 4, none⟩ = some (.int .i64 2) ∧ w'.cell? ⟨b, k * 4 + 1, none⟩ = some (.int .i64 (xs.length : Int)) ∧ w'.cell? ⟨b, k * 4 + 2, none⟩ = some (.int .i64 (xs.length : Int)) ∧ w'.cell? ⟨b, k * 4 + 3, none⟩ = some (.slice p1 D.length k1)) ∧ Below w6.heap.size w6 w')
              (first | exact ⟨⟨m0, m1, m2, m3, d0, d1, d2, d3⟩, (Below.refl _ _).drew⟩ | exact keep8 hb1 (by assumption) | exact keep8 (hq9.below _) (by assumption))
              (first
                | (go_at_call 14; refine (lawMatrices_any _ _ _ _ _ _ _ _ D D _ (held_ints IM6.out (by assumption)) (held_ints ID6.out (by assumption))).mono ?_; rintro e w' ⟨rfl, hb1⟩; rw [show mxSame 2 xs.length xs.length D 2 xs.length xs.length D = true from by simp [mxSame]]; have hBz : Below w6.heap.size w6 w' := below_trans (held_below (by assumption)) hb1)
                | (go_at_call 16; refine (fp1 2 xs.length _ D _ Hfl.out (held_ints ID6.out (by assumption))).mono ?_; rintro e w' ⟨pq, kq, lq, rfl, hoq, hb1, hfq⟩; have hq := hoq.ints; rw [Hfp.out lq hfq] at hq ⊢; have hBz : Below w6.heap.size w6 w' := below_trans (held_below (by assumption)) hb1)
                | (go_at_call 15; refine (lawInts_any _ _ xs xs _ (hq.below (by first | exact Below.refl _ _ | exact (Below.refl _ _).drew)) (held_ints IX6.out (by assumption))).mono ?_; rintro e w' ⟨rfl, hq9⟩; rw [show decide (xs = xs) = true from by simp]; have hBz : Below w6.heap.size w6 w' := below_trans (held_below (by assumption)) (hq9.below _)))
            have HBz : Hid (Below w6.heap.size w6 _) := Lib.hid (held_below (by assumption))
            go_wp2_with fail
            go_roundg (ms.length - (k + 1))
            case measure => omega
            case rel => exact ⟨k + 1, by omega, rfl, by go_num, Lib.hid (Hb6.out.trans (HBz.out.mono Hb6.out.size))⟩
          · go_wp2_with fail
            go_ret
            exact ⟨rfl, HB_3.out.trans (Hb.out.mono HB_3.out.size)⟩
    · have hn3i : ¬ (xs.length : Int) < 4 := by omega
      go_wp2_with fail
      obtain ⟨ms, hms, hL⟩ := fcL (P := 2) (by decide) HpX.out hn2 hn4 (.inl rfl)
      have HmL := Lib.hid hL
      have hfew := hL.few
      clear hL
      refine (implFlagsWith_any 2 _ xs _ IX_1.out).mono ?_
      rintro e w2 ⟨v, rfl, ho, hb⟩
      rw [show flMs 2 xs = (ms, true) from hms] at ho ⊢
      clear hms
      have HM_2 := Lib.hid ho
      have IX_2 := Lib.hid (IX_1.out.below hb)
      have HB_2 := Lib.hid (HB_1.out.trans (hb.mono HB_1.out.size))
      obtain ⟨pM, kM, rfl, hkM, hkM2⟩ := ho.shape
      unfold maxLen at hkM2
      clear ho hb
      have h3 := H3.out
      have h4 := H4.out
      have hm1 := Hm1.out
      have hhf := Hhf.out
      go_wp2_with fail
      clear h3 h4 hm1 hhf
      refine (implLength_any _ xs _ IX_2.out HpX.out).mono ?_
      rintro e w3 ⟨rfl, hb⟩
      have IX_3 := Lib.hid (IX_2.out.below hb)
      have HM_3 := Lib.hid (HM_2.out.below hb)
      have HB_3 := Lib.hid (HB_2.out.trans (hb.mono HB_2.out.size))
      clear hb IX_2 HB_2
      obtain ⟨f, hff⟩ : ∃ f, f = hf - lenP xs := ⟨_, rfl⟩
      have hle : lenP xs ≤ hf := by have := HmL.out.le; rwa [← HN.out] at this
      have Hf := Lib.hid (show ms.length = 2 ^ f by rw [hff, HN.out]; exact HmL.out.len)
      have h5 : IntKind.i64.wrap ((hf : Int) - (lenP xs : Int)) = (f : Int) := by rw [k64 (by omega) (by omega)]; omega
      have hf6 : f ≤ 6 := by omega
      clear hff hle
      go_wp2_with fail
      clear h5
      refine (power_any 2 f ms.length _ Hf.out (by omega) (by omega) (by rw [← Hf.out]; omega)).mono ?_
      rintro e w4 ⟨rfl, rfl⟩
      go_wp2_with fail
      have HB_4 := Lib.hid (show ∃ fM, RdS w3 4 (.slice pM ms.length kM) ms.length (mxF ms fM) ∧ ∀ i, i < ms.length → Ints w3 (fM i) (ms.getD i mxZero).D from HM_3.out.rd)
      obtain ⟨fM, hsM, hfM⟩ := HB_4.out
      obtain ⟨pM', kM', eM, -, hxc⟩ := hsM.four
      injection eM with eM1 _ eM2
      subst eM1 eM2
      have Hxc := Lib.hid hxc
      have HfM := Lib.hid hfM
      clear hsM hfM hxc HB_4 HM_3 HM_2
      go_loopg [10] ms.length (fun n i wr => ∃ k : Nat, k ≤ ms.length ∧ n = ms.length - k ∧ i = .int .i64 k ∧ Hid (Below w3.heap.size w3 wr))
      case atStart => exact ⟨0, Nat.zero_le _, rfl, rfl, Lib.hid (Below.refl _ _)⟩
      case round =>
        obtain ⟨k, hk, rfl, rfl, Hb⟩ := hrel
        obtain ⟨wo, rfl⟩ : ∃ x : World, x = wr := ⟨_, rfl⟩
        by_cases hlt : k < ms.length
        · have hlt2 : (k : Int) < (ms.length : Int) := by omega
          obtain ⟨b, rfl, hc⟩ := Hxc.out (by omega)
          obtain ⟨a0, a1, a2, a3⟩ := hc k hlt
          obtain ⟨D, hD', hfl', hnf', hfp'⟩ := HmL.out.each k hlt
          have hD : ms.getD k mxZero = ⟨2, xs.length, xs.length, D⟩ := hD'
          have Hfl : Hid (IsFl 2 xs.length xs.length D) := Lib.hid hfl'
          have Hnf : Hid (∀ DM, NfIs 2 xs.length xs.length D ⟨2, xs.length, xs.length, DM⟩ true → DM = D) := Lib.hid hnf'
          have Hfp : Hid (∀ l, FpIs 2 xs.length xs.length D l → l = xs) := Lib.hid hfp'
          have hI := HfM.out k hlt
          rw [hD] at a0 a1 a2 hI
          dsimp only at a0 a1 a2 hI
          have hI2 := hI
          obtain ⟨p1, k1, e1, _, _⟩ := hI2
          rw [e1] at a3 hI
          have c0 := cell_below Hb.out a0
          have c1 := cell_below Hb.out a1
          have c2 := cell_below Hb.out a2
          have c3 := cell_below Hb.out a3
          have ID := Lib.hid (hI.below Hb.out)
          have IX := Lib.hid (IX_3.out.below Hb.out)
          clear hc a0 a1 a2 a3 hD hD' hfl' hnf' hfp' hI e1
          go_wp2_with fail
          refine (norm1 2 xs.length _ D _ Hfl.out ID.out).mono ?_
          rintro e w5 ⟨pQ, kQ, DM, rfl, ho, hb5, hnr⟩
          rw [Hnf.out DM hnr] at ho ⊢
          clear hnr
          have hB6 := hb5.trans ((below_alloc w5 (.cells #[.int .i64 2, .int .i64 (xs.length : Int), .int .i64 (xs.length : Int), .slice pQ D.length kQ] 34)).mono hb5.size)
          have hoi := ho.ints
          clear ho
          go_wp2_with fail
          obtain ⟨w6, hw6⟩ : ∃ x : World, x = w5.alloc (.cells #[.int .i64 2, .int .i64 (xs.length : Int), .int .i64 (xs.length : Int), .slice pQ D.length kQ] 34) := ⟨_, rfl⟩
          have hz6 : w6.heap[w5.heap.size]? = some (.cells #[.int .i64 2, .int .i64 (xs.length : Int), .int .i64 (xs.length : Int), .slice pQ D.length kQ] 34) := by rw [hw6]; exact heap_alloc_top _ _
          have hb6 : Below w5.heap.size w5 w6 := by rw [hw6]; exact below_alloc _ _
          rw [← hw6] at hB6 ⊢
          clear hw6
          obtain ⟨m0, m1, m2, m3, _, _⟩ := blk4 hz6
          have IM6 := Lib.hid (hoi.below hb6)
          have ID6 := Lib.hid (ID.out.below hB6)
          have IX6 := Lib.hid (IX.out.below hB6)
          have Hb6 := Lib.hid (Hb.out.trans (hB6.mono Hb.out.size))
          have d0 := cell_below hB6 c0
          have d1 := cell_below hB6 c1
          have d2 := cell_below hB6 c2
          have d3 := cell_below hB6 c3
          clear hoi hb6 hB6 hb5 hz6 c0 c1 c2 c3 ID IX Hb
          go_region_held3 (fun w' => (w'.cell? ⟨w5.heap.size, 0, none⟩ = some (.int .i64 2) ∧ w'.cell? ⟨w5.heap.size, 1, none⟩ = some (.int .i64 (xs.length : Int)) ∧ w'.cell? ⟨w5.heap.size, 2, none⟩ = some (.int .i64 (xs.length : Int)) ∧ w'.cell? ⟨w5.heap.size, 3, none⟩ = some (.slice pQ D.length kQ) ∧ w'.cell? ⟨b, k * 4, none⟩ = some (.int .i64 2) ∧ w'.cell? ⟨b, k * 4 + 1, none⟩ = some (.int .i64 (xs.length : Int)) ∧ w'.cell? ⟨b, k * 4 + 2, none⟩ = some (.int .i64 (xs.length : Int)) ∧ w'.cell? ⟨b, k * 4 + 3, none⟩ = some (.slice p1 D.length k1)) ∧ Below w6.heap.size w6 w')
            (first | exact ⟨⟨m0, m1, m2, m3, d0, d1, d2, d3⟩, (Below.refl _ _).drew⟩ | exact keep8 hb1 (by assumption) | exact keep8 (hq9.below _) (by assumption))
            (first
              | (go_at_call 14; refine (lawMatrices_any _ _ _ _ _ _ _ _ D D _ (held_ints IM6.out (by assumption)) (held_ints ID6.out (by assumption))).mono ?_; rintro e w' ⟨rfl, hb1⟩; rw [show mxSame 2 xs.length xs.length D 2 xs.length xs.length D = true from by simp [mxSame]]; have hBz : Below w6.heap.size w6 w' := below_trans (held_below (by assumption)) hb1)
              | (go_at_call 16; refine (fp1 2 xs.length _ D _ Hfl.out (held_ints ID6.out (by assumption))).mono ?_; rintro e w' ⟨pq, kq, lq, rfl, hoq, hb1, hfq⟩; have hq := hoq.ints; rw [Hfp.out lq hfq] at hq ⊢; have hBz : Below w6.heap.size w6 w' := below_trans (held_below (by assumption)) hb1)
              | (go_at_call 15; refine (lawInts_any _ _ xs xs _ (hq.below (by first | exact Below.refl _ _ | exact (Below.refl _ _).drew)) (held_ints IX6.out (by assumption))).mono ?_; rintro e w' ⟨rfl, hq9⟩; rw [show decide (xs = xs) = true from by simp]; have hBz : Below w6.heap.size w6 w' := below_trans (held_below (by assumption)) (hq9.below _)))
          have HBz : Hid (Below w6.heap.size w6 _) := Lib.hid (held_below (by assumption))
          go_wp2_with fail
          go_roundg (ms.length - (k + 1))
          case measure => omega
          case rel => exact ⟨k + 1, by omega, rfl, by go_num, Lib.hid (Hb6.out.trans (HBz.out.mono Hb6.out.size))⟩
        · go_wp2_with fail
          go_ret
          exact ⟨rfl, HB_3.out.trans (Hb.out.mono HB_3.out.size)⟩

end Go.Proofs.Ytoodgbflaaabmaa
