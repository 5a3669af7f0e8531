/-
  MeetSpaces, the program's side, where the two fit.
-/
import Derived.Test.YtmnlpkmnbjoicaaMeet
import Derived.Test.YtmnlpkmnbjoicaaMeetR
namespace Go.Proofs.Ytmnlpkmnbjoicaa
set_option linter.all false
open Go.RowKit


set_option maxRecDepth 100000 in
set_option maxHeartbeats 8000000 in
theorem implMeet_yes (AP AR AC BP BR BC : Int) (dA dB : Value) (DA DB : List Int) (w : World) (hdA : Ints w dA DA) (hdB : Ints w dB DB) (h : TwoIs AP AR AC DA BP BR BC DB) :
    Calls Try.prog 9 #[.agg #[.int .i64 AP, .int .i64 AR, .int .i64 AC, dA], .agg #[.int .i64 BP, .int .i64 BR, .int .i64 BC, dB]] w fun e w' => ∃ m, RetMB w m true e w' ∧ MtIs AP AC.toNat AR.toNat BR.toNat (mf AC.toNat fun t => DA.getD t 0) (mf AC.toNat fun t => DB.getD t 0) m := by
  obtain ⟨⟨ka, sa⟩, ⟨kb, sb⟩, hPe, hCe⟩ := h
  subst hPe hCe
  obtain ⟨ra, c, rfl, rfl, hra, hc0, hc, hlA, hDA, hP2, hP7, hpr⟩ := mxOk_facts ka
  obtain ⟨rb, c2, rfl, hce, hrb, _, _, hlB, hDB, _, _, _⟩ := mxOk_facts kb
  obtain rfl := Int.ofNat.inj hce
  clear hce
  have Hka := Lib.hid (show IsSp AP ra c DA from ⟨ka, sa⟩)
  have Hkb := Lib.hid (show IsSp AP rb c DB from ⟨kb, sb⟩)
  have HgA := Lib.hid (fun t => getD_range hDA (by omega) t)
  have HgB := Lib.hid (fun t => getD_range hDB (by omega) t)
  have HlA := Lib.hid hlA
  have HlB := Lib.hid hlB
  have Hpr := Lib.hid hpr
  clear ka sa kb sb hlA hlB hDA hDB hpr
  have Hf := Lib.hid (show fitOk AP c AP c = true by simp [fitOk])
  simp only [Int.toNat_natCast]
  have HdA := Lib.hid hdA
  obtain ⟨pA, kA, rfl, ⟨_, mA⟩, _⟩ := hdA
  unfold maxLen at mA
  have HdB := Lib.hid hdB
  obtain ⟨pB, kB, rfl, ⟨_, mB⟩, _⟩ := hdB
  unfold maxLen at mB
  obtain ⟨z0, z1, z2⟩ := boxes_abz w (.cells #[.int .i64 AP, .int .i64 (ra : Int), .int .i64 (c : Int), .slice pA DA.length kA] 26) (.cells #[.int .i64 AP, .int .i64 (rb : Int), .int .i64 (c : Int), .slice pB DB.length kB] 26) (.cells #[.int .i64 0, .int .i64 0, .int .i64 0, .slice none 0 0] 26)
  have ZA1 := Lib.hid z0
  have ZB1 := Lib.hid z1
  have ZZ1 := Lib.hid z2
  clear z0 z1 z2
  have HB1 := Lib.hid (below_alloc3 w (.cells #[.int .i64 AP, .int .i64 (ra : Int), .int .i64 (c : Int), .slice pA DA.length kA] 26) (.cells #[.int .i64 AP, .int .i64 (rb : Int), .int .i64 (c : Int), .slice pB DB.length kB] 26) (.cells #[.int .i64 0, .int .i64 0, .int .i64 0, .slice none 0 0] 26))
  go_enter Try.func9, Try.ntmps9
  go_wp2_with fail
  have hs1 : (((w.alloc (.cells #[.int .i64 AP, .int .i64 (ra : Int), .int .i64 (c : Int), .slice pA DA.length kA] 26)).alloc (.cells #[.int .i64 AP, .int .i64 (rb : Int), .int .i64 (c : Int), .slice pB DB.length kB] 26)).alloc (.cells #[.int .i64 0, .int .i64 0, .int .i64 0, .slice none 0 0] 26)).heap.size = w.heap.size + 1 + 1 + 1 := by simp
  generalize ((w.alloc (.cells #[.int .i64 AP, .int .i64 (ra : Int), .int .i64 (c : Int), .slice pA DA.length kA] 26)).alloc (.cells #[.int .i64 AP, .int .i64 (rb : Int), .int .i64 (c : Int), .slice pB DB.length kB] 26)).alloc (.cells #[.int .i64 0, .int .i64 0, .int .i64 0, .slice none 0 0] 26) = w1 at *
  obtain ⟨cA0, cA1, cA2, cA3, cAf, cAz⟩ := blk4 ZA1.out
  go_wp2_with fail
  refine (implIsSpace_yes _ _ _ _ _ Hka.out _ (HdA.out.below HB1.out)).mono ?_
  rintro e w2 ⟨rfl, hb⟩
  have hs2 := hb.size
  have HB2 := Lib.hid (HB1.out.trans (hb.mono HB1.out.size))
  have ZA2 := Lib.hid (blk_later ZA1.out hb)
  have ZB2 := Lib.hid (blk_later ZB1.out hb)
  have ZZ2 := Lib.hid (blk_later ZZ1.out hb)
  clear hb ZA1 ZB1 ZZ1
  clear cA0 cA1 cA2 cA3 cAf cAz
  obtain ⟨cB0, cB1, cB2, cB3, cBf, cBz⟩ := blk4 ZB2.out
  go_wp2_with fail
  refine (implIsSpace_yes _ _ _ _ _ Hkb.out _ (HdB.out.below HB2.out)).mono ?_
  rintro e w3 ⟨rfl, hb⟩
  have hs3 := hb.size
  have HB3 := Lib.hid (HB2.out.trans (hb.mono HB2.out.size))
  have ZA3 := Lib.hid (blk_later ZA2.out hb)
  have ZB3 := Lib.hid (blk_later ZB2.out hb)
  have ZZ3 := Lib.hid (blk_later ZZ2.out hb)
  clear hb ZA2 ZB2 ZZ2
  clear cB0 cB1 cB2 cB3 cBf cBz
  obtain ⟨cA0, cA1, cA2, cA3, cAf, cAz⟩ := blk4 ZA3.out
  obtain ⟨cB0, cB1, cB2, cB3, cBf, cBz⟩ := blk4 ZB3.out
  go_wp2_with fail
  refine (fitTogether_any _ _ _ _ _ _ _ _ DA DB _ (HdA.out.below HB3.out) (HdB.out.below HB3.out)).mono ?_
  rintro e w4 ⟨rfl, hb⟩
  have hs4 := hb.size
  have HB4 := Lib.hid (HB3.out.trans (hb.mono HB3.out.size))
  have ZA4 := Lib.hid (blk_later ZA3.out hb)
  have ZB4 := Lib.hid (blk_later ZB3.out hb)
  have ZZ4 := Lib.hid (blk_later ZZ3.out hb)
  clear hb ZA3 ZB3 ZZ3
  clear cA0 cA1 cA2 cA3 cAf cAz cB0 cB1 cB2 cB3 cBf cBz
  rw [Hf.out]
  obtain ⟨cA0, cA1, cA2, cA3, cAf, cAz⟩ := blk4 ZA4.out
  go_wp2_with fail
  refine (lines_any AP ra c _ DA _ (HdA.out.below (HB4.out.trans ((below_alloc w4 _).mono HB4.out.size))) (by omega) (by omega) hc0 HlA.out).mono ?_
  rintro e w5 ⟨u, rfl, hoA, hb5⟩
  obtain ⟨pu, ku, rfl, hku1, hku2⟩ := hoA.shape
  rw [rowsOf_length] at hoA hku1 ⊢
  unfold maxLen at hku2
  have hs5 := hb5.size
  simp only [size_alloc] at hs5 hb5 hoA
  have HoA := Lib.hid hoA
  have HB5 : Hid (Below w.heap.size w w5) := Lib.hid (HB4.out.trans (((below_alloc w4 _).trans (hb5.mono (by simp))).mono HB4.out.size))
  have Hw5 := Lib.hid (below_alloc w4 (.cells #[] 24) |>.trans (hb5.mono (by simp)))
  have ZA5 := Lib.hid (blk_later ZA4.out Hw5.out)
  have ZB5 := Lib.hid (blk_later ZB4.out Hw5.out)
  have ZZ5 := Lib.hid (blk_later ZZ4.out Hw5.out)
  clear hoA hb5 cA0 cA1 cA2 cA3 cAf cAz
  go_wp2_with fail
  go_loopg [6, 33] ra (fun g s6 s33 wr => ∃ (k : Nat) (fo : Nat → Value), k ≤ ra ∧ g = ra - k ∧ s33 = .int .i64 k ∧ Below w5.heap.size w5 wr ∧ Hid (OwnE wr w5.heap.size wr.heap.size 24 s6 k fo) ∧ Hid (RowsN wr w5.heap.size wr.heap.size k fo fun i => rowAt c DA i ++ rowAt c DA i))
  case atStart =>
    exact ⟨0, fun _ => undef, Nat.zero_le _, rfl, rfl, Below.refl _ _, .inl ⟨rfl, _, rfl⟩, ⟨fun i hi => absurd hi (Nat.not_lt_zero _), fun i j hi => absurd hi (Nat.not_lt_zero _)⟩⟩
  case round =>
    obtain ⟨k, fo, hk, rfl, rfl, hbr, hE, hN⟩ := hrel
    have HoR := Lib.hid (HoA.out.below hbr)
    by_cases hlt : k < ra
    · obtain ⟨fa, g1, g2, g3⟩ := HoR.out
      rw [rowsOf_length] at g1 g2
      have hrow := g2 k hlt
      rw [rowsOf_getD hlt] at hrow
      obtain ⟨gv, rfl, _, _, _⟩ := g1.at_ (by omega)
      have cv := g1.cell hlt
      obtain ⟨pr, kr, hfk, _, _⟩ := hrow.shape
      have hrl : (rowAt c DA k).length = c := rowAt_length (by rw [HlA.out]; exact mul_le_of hlt)
      rw [hrl] at hfk
      rw [hfk] at cv hrow
      have Hrow := Lib.hid hrow
      have Hrl := Lib.hid hrl
      have hlt2 : (k : Int) < (ra : Int) := by omega
      clear g1 g2 g3 hrow hrl hfk
      go_wp2_with fail
      refine (clone_any _ _ _ Hrow.out.ints (by rw [Hrl.out]; omega)).mono ?_
      rintro e w6 ⟨uc, rfl, ho6, hb6⟩
      have hs6 := hb6.size
      have ho6f := ho6.fn
      obtain ⟨p6, k6, rfl, _, _⟩ := ho6.shape
      rw [Hrl.out] at ho6f ⊢
      have Ho6 := Lib.hid ho6f
      have Hr6 := Lib.hid (show Rd w6 (.slice pr c kr) c (iv (rowAt c DA k)) by have := (Hrow.out.below hb6).fn.rd; rw [Hrl.out] at this; exact this)
      have Hb6 := Lib.hid hb6
      have HE := Lib.hid hE.out
      have HN := Lib.hid hN.out
      have hsr := hbr.size
      have Hb1 := Lib.hid (show c + c ≤ maxLen by unfold maxLen; omega)
      have Hb2 := Lib.hid (show (c + c) * 8 ≤ 140737488355328 by omega)
      have Hb3 := Lib.hid (show k + 1 ≤ maxLen by unfold maxLen; omega)
      have Hb4 := Lib.hid (show (k + 1) * 24 ≤ 140737488355328 by omega)
      have Hbr := Lib.hid hbr
      clear ho6 ho6f hb6 hE hN cv hbr
      go_wp2_with (at_builtin; first
        | (refine wpList_append_F rfl (.tmp 39) (.tmp 40) 24 rfl 3 (.int .i64 0) 8 Try.underlying24 info_int rfl wr.heap.size w6.heap.size _ c (iv (rowAt c DA k)) rfl Ho6.out hs6 (Nat.le_refl _) _ c (iv (rowAt c DA k)) rfl Hr6.out (fun j _ => iv_one _ _) Hb1.out Hb2.out ?_; intro v7 w7 ho7 hg7; have hb7 : Below wr.heap.size w6 w7 := grownBy_below2 hg7 Ho6.out (Nat.le_refl _) hs6; have Ho7 : Hid (OwnI 3 w7 wr.heap.size w7.heap.size v7 (rowAt c DA k ++ rowAt c DA k)) := Lib.hid (own_join (by rw [Hrl.out]; exact ho7)); obtain ⟨p7, k7, rfl, _, _⟩ := ho7.shape; have hs7 : wr.heap.size ≤ w7.heap.size := Nat.le_trans hs6 hb7.size; have HW := Lib.hid (fun o : Obj => (Hb6.out.trans hb7).trans ((below_alloc w7 o).mono hs7)); clear ho7 hg7 hb7)
        | go_must (have HWo := Lib.hid (HW.out (.cells #[.slice p7 (c + c) k7] 24)); refine wpList_append_E rfl (.tmp 37) (.tmp 42) 53 rfl 24 (.slice none 0 0) 24 Try.underlying53 info_sl rfl w5.heap.size wr.heap.size u6 k fo rfl (HE.out.keepB HWo.out (Nat.le_refl _)) (by rw [size_alloc]; omega) (by rw [size_alloc]; omega) _ _ _ rfl (rd_one _ _ _ rfl) Nat.one_pos (fun j _ => rfl) Hb3.out Hb4.out ?_; intro v8 w8 ho8 hg8; have Ho8 := Lib.hid ho8; have ho9 : OwnI 3 (w7.alloc (.cells #[.slice p7 (c + c) k7] 24)) wr.heap.size (w7.alloc (.cells #[.slice p7 (c + c) k7] 24)).heap.size (.slice p7 (c + c) k7) (rowAt c DA k ++ rowAt c DA k) := (Ho7.out.below (below_alloc w7 _)).mono (Nat.le_refl _) (by rw [size_alloc]; omega); have Hg8 := Lib.hid (RowsN.round1 HN.out hsr HWo.out ho9 hg8); clear ho8 hg8 ho9))
      go_roundg (ra - (k + 1))
      case measure => omega
      case rel =>
        refine ⟨k + 1, _, by omega, rfl, by go_num, Hbr.out.trans Hg8.out.2, .inr Ho8.out, Hg8.out.1.congr (fun i _ => rfl) fun i hi => ?_⟩
        by_cases e : i < k
        · simp [e]
        · obtain rfl : i = k := by omega
          simp
    · obtain rfl : ra = k := by omega
      have hsr := hbr.size
      have HE := Lib.hid hE.out
      have HN := Lib.hid hN.out
      have HBr : Hid (Below w.heap.size w wr) := Lib.hid (HB5.out.trans (hbr.mono HB5.out.size))
      have ZAr := Lib.hid (blk_later ZA5.out hbr)
      have ZBr := Lib.hid (blk_later ZB5.out hbr)
      have ZZr := Lib.hid (blk_later ZZ5.out hbr)
      clear hE hN hbr HoA HoR
      obtain ⟨cB0, cB1, cB2, cB3, cBf, cBz⟩ := blk4 ZBr.out
      go_wp2_with fail
      refine (lines_any AP rb c _ DB _ (HdB.out.below HBr.out) (by omega) (by omega) hc0 HlB.out).mono ?_
      rintro e w9 ⟨v, rfl, hoB, hb9⟩
      obtain ⟨pv, kv, rfl, hkv1, hkv2⟩ := hoB.shape
      obtain ⟨fB, hL0⟩ := Lot.start hsr HE.out HN.out hb9 hoB
      rw [rowsOf_length] at hL0 hkv1 ⊢
      unfold maxLen at hkv2
      have hs9 := hb9.size
      have HL0 := Lib.hid hL0
      have HB9 : Hid (Below w.heap.size w w9) := Lib.hid (HBr.out.trans (hb9.mono HBr.out.size))
      have ZA9 := Lib.hid (blk_later ZAr.out hb9)
      have ZB9 := Lib.hid (blk_later ZBr.out hb9)
      have ZZ9 := Lib.hid (blk_later ZZr.out hb9)
      have hsw : w.heap.size + 1 + 1 + 1 ≤ w5.heap.size := by have := blk_lt ZZ5.out; omega
      clear hL0 hoB hb9 cB0 cB1 cB2 cB3 cBf cBz
      go_wp2_with fail
      go_loopg [6, 48] rb (fun g s6 s48 w2 => ∃ (k : Nat), k ≤ rb ∧ g = rb - k ∧ s48 = .int .i64 k ∧ Hid (Below w5.heap.size w9 w2) ∧ Hid (Lot w2 w5.heap.size s6 (.slice pv rb kv) ra rb k fB (fun i => if i < ra + k then rr c ra DA DB i else rowAt c DB (i - ra))))
      case atStart =>
        refine ⟨0, Nat.zero_le _, rfl, rfl, Below.refl _ _, ?_⟩
        obtain ⟨fo, l1, l2, l3, l4⟩ := HL0.out
        refine ⟨fo, l1, l2.congr (fun i _ => rfl) fun i hi => ?_, l3, l4⟩
        by_cases e : i < ra
        · simp [rr, e]
        · simp only [Nat.add_zero, e, if_false]
          rw [rowsOf_getD (by omega)]
      case round =>
        obtain ⟨k, hk, rfl, rfl, hb2, hL⟩ := hrel
        obtain ⟨w2, rfl⟩ : ∃ x : World, x = wr := ⟨_, rfl⟩
        by_cases hlt : k < rb
        · have hrow : OwnI 3 w2 w5.heap.size w2.heap.size (fB k) (rowAt c DB k) := by
            have := hL.out.row hlt
            simpa only [Nat.lt_irrefl, if_false, Nat.add_sub_cancel_left] using this
          obtain ⟨fo, _, _, h3, _⟩ := hL.out
          obtain ⟨gv, rfl, _, _, _⟩ := h3.at_ (by omega)
          have cv := h3.cell hlt
          obtain ⟨pr, kr, hfk, _, _⟩ := hrow.shape
          have hrl : (rowAt c DB k).length = c := rowAt_length (by rw [HlB.out]; exact mul_le_of hlt)
          rw [hrl] at hfk
          rw [hfk] at cv hrow
          have Hfk := Lib.hid hfk
          have hrowf := hrow.fn
          rw [hrl] at hrowf
          have Hrow := Lib.hid hrowf
          have Hrl := Lib.hid hrl
          have hlt2 : (k : Int) < (rb : Int) := by omega
          have hs2 := hb2.out.size
          have ZB2 : w2.heap[w.heap.size + 1]? = some (.cells #[.int .i64 AP, .int .i64 (rb : Int), .int .i64 (c : Int), .slice pB DB.length kB] 26) := by rw [hb2.out.block _ (by omega)]; exact ZB9.out
          obtain ⟨cB0, cB1, cB2, cB3, cBf, cBz⟩ := blk4 ZB2
          have HL := Lib.hid hL.out
          have Hb2 := Lib.hid hb2.out
          have Hb3 := Lib.hid (show ra + k + 1 ≤ maxLen by unfold maxLen; omega)
          have Hb4 := Lib.hid (show (ra + k + 1) * 24 ≤ 140737488355328 by omega)
          have Hz1 := Lib.hid (show ∀ u ∈ (Value.int .i64 0).cells.toList, u.oneCell' = true by intro u hu; simp [Value.cells] at hu; subst hu; rfl)
          have hlo2 : w5.heap.size ≤ w2.heap.size := by omega
          clear h3 hrow hrowf hfk hrl ZB2 hL hb2
          go_wp2_with (at_builtin; first
            | (refine wpList_append_make_F rfl (.tmp 53) (.tmp 55) 24 3 rfl 3 (.int .i64 0) 8 Try.underlying24 Try.underlying3 info_int rfl Hz1.out (by omega) (by omega) w5.heap.size w2.heap.size _ c (iv (rowAt c DB k)) rfl Hrow.out hlo2 (Nat.le_refl _) c rfl hc0 (by omega) ?_; intro v7 w7 ho7 hg7 hn7; have Ho7 : Hid (OwnI 3 w7 w5.heap.size w7.heap.size v7 (rowAt c DB k ++ List.replicate c 0)) := Lib.hid (own_zeros Hrl.out ho7); obtain ⟨p7, k7, rfl, _, _⟩ := ho7.shape; have HR := Lib.hid (fun o : Obj => HL.out.round hlt hlo2 Ho7.out (by rw [Hfk.out]; exact hg7) (by rw [Hfk.out]; exact hn7) (below_alloc w7 o)); have hs7 := hg7.size; clear ho7 hg7 hn7)
            | go_must (obtain ⟨fo, x1, x2, x3⟩ := HR.out (.cells #[.slice p7 (c + c) k7] 24); have X2 := Lib.hid x2; have X3 := Lib.hid x3; refine wpList_append_E2 rfl (.tmp 52) (.tmp 57) 53 rfl 24 (.slice none 0 0) 24 Try.underlying53 info_sl rfl w5.heap.size w2.heap.size _ (ra + k) fo _ rfl x1 (by rw [size_alloc]; omega) (by rw [size_alloc]; omega) _ _ _ rfl (rd_one _ _ _ rfl) Nat.one_pos (fun j _ => rfl) Hb3.out Hb4.out ?_; intro v8 w8 ho8 hg8; have X4 := Lib.hid (X3.out _ _ ho8 hg8); clear x1 x2 x3 ho8 hg8))
          go_roundg (rb - (k + 1))
          case measure => omega
          case rel =>
            refine ⟨k + 1, by omega, rfl, by go_num, Hb2.out.trans X4.out.2, ?_⟩
            obtain ⟨fo, l1, l2, l3, l4⟩ := X4.out.1
            refine ⟨fo, l1, l2.congr (fun i _ => rfl) fun i hi => ?_, l3, l4⟩
            by_cases e : i = ra + k
            · subst e
              simp [rr, show ¬ ra + k < ra by omega]
            · by_cases e2 : i < ra + k
              · simp [e, e2, show i < ra + (k + 1) by omega]
              · simp [e, e2, show ¬ i < ra + (k + 1) by omega]
        · obtain rfl : rb = k := by omega
          have hs2 := hb2.out.size
          have Hrd := Lib.hid (hL.out.rd (rows := rrL (ra + rb) c ra DA DB) (rrL_length _ _ _ _ _) fun i hi => by rw [rrL_getD hi]; simp [hi])
          have HB2' : Hid (Below w.heap.size w w2) := Lib.hid (HB9.out.trans (hb2.out.mono (by omega)))
          have ZA2 : Hid (w2.heap[w.heap.size]? = some (.cells #[.int .i64 AP, .int .i64 (ra : Int), .int .i64 (c : Int), .slice pA DA.length kA] 26)) := Lib.hid (by rw [hb2.out.block _ (by omega)]; exact ZA9.out)
          have ZB2 : Hid (w2.heap[w.heap.size + 1]? = some (.cells #[.int .i64 AP, .int .i64 (rb : Int), .int .i64 (c : Int), .slice pB DB.length kB] 26)) := Lib.hid (by rw [hb2.out.block _ (by omega)]; exact ZB9.out)
          have ZZ2 : Hid (w2.heap[w.heap.size + 1 + 1]? = some (.cells #[.int .i64 0, .int .i64 0, .int .i64 0, .slice none 0 0] 26)) := Lib.hid (by rw [hb2.out.block _ (by omega)]; exact ZZ9.out)
          clear hL hb2 HE HN HL0
          obtain ⟨cA0, cA1, cA2, cA3, cAf, cAz⟩ := blk4 ZA2.out
          go_wp2_with fail
          refine (reduced_any _ (rrL (ra + rb) c ra DA DB) (2 * c) AP _ (Hrd.out.below (below_alloc w2 _)) (rrL_ok (by omega) HlA.out HlB.out HgA.out HgB.out) Hpr.out (by rw [rrL_length]; omega) (by omega)).mono ?_
          rintro e w10 ⟨v, L, q, rfl, hoR, hb10, hR1, hR2, hR3, hR4, hR5⟩
          obtain ⟨pR, kR, rfl, hkR1, hkR2⟩ := hoR.shape
          rw [rrL_length] at hR5
          unfold maxLen at hkR2
          have hs10 := hb10.size
          simp only [size_alloc] at hs10
          have hB10 : Below w2.heap.size w2 w10 := (below_alloc w2 _).trans (hb10.mono (by rw [size_alloc]; omega))
          have HB10 : Hid (Below w.heap.size w w10) := Lib.hid (HB2'.out.trans (hB10.mono HB2'.out.size))
          have ZA10 := Lib.hid (blk_later ZA2.out hB10)
          have ZB10 := Lib.hid (blk_later ZB2.out hB10)
          have ZZ10 := Lib.hid (blk_later ZZ2.out hB10)
          have HoR := Lib.hid hoR
          have HR1 := Lib.hid hR1
          have HR2 := Lib.hid hR2
          have HR3 := Lib.hid hR3
          have HR4 := Lib.hid hR4
          clear hoR hb10 hB10 hR1 hR2 hR3 hR4 cA0 cA1 cA2 cA3 cAf cAz
          go_wp2_with fail
          go_loopg [11, 66] L.length (fun g s11 s66 w3 => ∃ (k : Nat) (fo : Nat → Value), k ≤ L.length ∧ g = L.length - k ∧ s66 = .int .i64 k ∧ Hid (Below w10.heap.size w10 w3) ∧ Hid (OwnE w3 w10.heap.size w3.heap.size 24 s11 (keptL k c q).length fo) ∧ Hid (∀ i, i < (keptL k c q).length → Ints w10 (fo i) ((cmL k c q L).getD i [])))
          case atStart =>
            exact ⟨0, fun _ => undef, Nat.zero_le _, rfl, rfl, Below.refl _ _, .inl ⟨by simp [keptL], _, rfl⟩, fun i hi => absurd hi (by simp [keptL])⟩
          case round =>
            obtain ⟨k, fo, hk, rfl, rfl, hb3, hE, hI⟩ := hrel
            obtain ⟨w3, rfl⟩ : ∃ x : World, x = wr := ⟨_, rfl⟩
            have hs3 := hb3.out.size
            by_cases hlt : k < L.length
            · obtain ⟨fa, g1, g2, g3⟩ := HoR.out
              have hrow := g2 k hlt
              have g1 := g1.below hb3.out
              obtain ⟨gv, rfl, _, _, _⟩ := g1.at_ (by omega)
              have cv := g1.cell hlt
              obtain ⟨xs, hxs⟩ : ∃ xs, xs = L.getD k [] := ⟨_, rfl⟩
              rw [← hxs] at hrow
              obtain ⟨pr, kr, hfk, hkr1, hkr2⟩ := hrow.shape
              have hrl : xs.length = 2 * c := by rw [hxs]; exact (HR1.out k hlt).1
              have hpv : pivL xs = q k := by rw [hxs]; exact HR2.out.piv HR1.out hlt
              rw [hfk] at cv hrow
              rw [hrl] at cv hkr1
              obtain ⟨gr, rfl, _, _, _⟩ := hrow.fn.at_ (by omega)
              obtain ⟨Q, hQ⟩ : ∃ Q, Q = q k := ⟨_, rfl⟩
              rw [← hQ] at hpv
              have hri := hrow.ints
              rw [hrl] at hri
              have Hri := Lib.hid hri
              have Hpv := Lib.hid hpv
              have HQ := Lib.hid hQ
              have Hxs := Lib.hid hxs
              have Hrl := Lib.hid hrl
              have hlt2 : (k : Int) < (L.length : Int) := by omega
              have ZA3 := blk_later ZA10.out hb3.out
              obtain ⟨cA0, cA1, cA2, cA3, cAf, cAz⟩ := blk4 ZA3
              have HE := Lib.hid hE.out
              have HI := Lib.hid hI.out
              have Hb3 := Lib.hid hb3.out
              unfold maxLen at hkr2
              clear g1 g2 g3 hrow hri hpv hQ hxs hrl ZA3 hE hI hb3 hfk
              by_cases hq : c ≤ Q
              · have hq2 : (c : Int) ≤ (Q : Int) := by omega
                go_wp2_with fail
                go_quiet (first
                  | (go_at_call 36; exact quiet_q (v := .int .i64 (Q : Int)) ((pivot_any _ xs _ ((Hri.out.below Hb3.out).drewN _)).mono fun e w' ⟨h1, h2⟩ => ⟨by rw [h1, Hpv.out], h2⟩)))
                have ek : (keptL (k + 1) c q).length = (keptL k c q).length + 1 := by rw [keptL_succ, if_pos (by rw [← HQ.out]; exact hq)]; simp
                have hle := keptL_le k c q
                have HO := Lib.hid (fun o : Obj => (show Below w3.heap.size w3 ((w3.drewN nq).alloc o) from (Below.of_drewN w3 nq).alloc (Nat.le_refl _) o))
                have hsz : ∀ o : Obj, ((w3.drewN nq).alloc o).heap.size = w3.heap.size + 1 := fun o => size_alloc (w3.drewN nq) o
                have Hsz := Lib.hid hsz
                have Hek := Lib.hid ek
                have Hc3 := Lib.hid (show (keptL k c q).length + 1 ≤ maxLen by unfold maxLen; omega)
                have Hc4 := Lib.hid (show ((keptL k c q).length + 1) * 24 ≤ 140737488355328 by omega)
                clear hsz ek hle
                go_wp2_with (at_builtin; go_must (refine wpList_append_E rfl (.tmp 75) (.tmp 80) 53 rfl 24 (.slice none 0 0) 24 Try.underlying53 info_sl rfl w10.heap.size w3.heap.size u11 (keptL k c q).length fo rfl (HE.out.keepB (HO.out _) (Nat.le_refl _)) (by rw [Hsz.out]; omega) (by rw [Hsz.out]; omega) _ _ _ rfl (rd_one _ _ _ rfl) Nat.one_pos (fun j _ => rfl) Hc3.out Hc4.out ?_; intro v8 w8 ho8 hg8; have Ho8 := Lib.hid ho8; have hb8 := ownE_below (lo := w10.heap.size) (by rw [Hsz.out]; omega) hg8; have Hb8 := Lib.hid ((Hb3.out.trans ((HO.out (.cells #[.slice (some ⟨gr, c, none⟩) (2 * c - c) (kr - c)] 24)).mono hs3)).trans hb8); clear ho8 hg8 hb8))
                go_roundg (L.length - (k + 1))
                case measure => omega
                case rel =>
                  refine ⟨k + 1, _, by omega, rfl, by go_num, Hb8.out, .inr (by rw [Hek.out]; exact Ho8.out), fun i hi => ?_⟩
                  rw [Hek.out] at hi
                  rw [cmL_yes (by rw [← HQ.out]; exact hq)]
                  by_cases e : i < (keptL k c q).length
                  · simp only [e, if_true]
                    rw [getD_app_lt (by rw [cmL_length]; exact e)]
                    exact HI.out i e
                  · simp only [e, if_false]
                    rw [getD_app_ge (by rw [cmL_length]; exact e), cmL_length, show i - (keptL k c q).length = 0 by omega]
                    have := ints_drop Hri.out Hrl.out (c := c) (by omega) hkr1 (by unfold maxLen; omega)
                    rw [Hxs.out] at this
                    exact this
              · have hq2 : ¬ (c : Int) ≤ (Q : Int) := by omega
                go_wp2_with fail
                go_quiet (first
                  | (go_at_call 36; exact quiet_q (v := .int .i64 (Q : Int)) ((pivot_any _ xs _ ((Hri.out.below Hb3.out).drewN _)).mono fun e w' ⟨h1, h2⟩ => ⟨by rw [h1, Hpv.out], h2⟩)))
                go_wp2_with fail
                go_roundg (L.length - (k + 1))
                case measure => omega
                case rel =>
                  have ek : keptL (k + 1) c q = keptL k c q := by rw [keptL_succ, if_neg (by rw [← HQ.out]; exact hq), List.append_nil]
                  refine ⟨k + 1, fo, by omega, rfl, by go_num, Hb3.out.trans ((Below.of_drewN w3 _).mono hs3), ?_, ?_⟩
                  · rw [ek]; exact HE.out.keepB (Below.of_drewN w3 _) (Nat.le_refl _)
                  · rw [ek, cmL_no (by rw [← HQ.out]; exact hq)]
                    exact HI.out
            · obtain rfl : k = L.length := by omega
              have HB3x : Hid (Below w.heap.size w w3) := Lib.hid (HB10.out.trans (hb3.out.mono HB10.out.size))
              have ZA3x := Lib.hid (blk_later ZA10.out hb3.out)
              have ZB3x := Lib.hid (blk_later ZB10.out hb3.out)
              have ZZ3x := Lib.hid (blk_later ZZ10.out hb3.out)
              obtain ⟨CL, hCL⟩ : ∃ CL, CL = cmL L.length c q L := ⟨_, rfl⟩
              have hcl : CL.length = (keptL L.length c q).length := by rw [hCL, cmL_length]
              have hcr : RdII w3 u11 CL := by
                rw [hCL]
                refine ⟨fo, ?_, fun i hi => (hI.out i (by rwa [cmL_length] at hi)).below hb3.out⟩
                rw [cmL_length]
                rcases hE.out with ⟨e, p, rfl⟩ | hE
                · rw [e]; exact ⟨p, 0, rfl, ⟨Nat.le_refl _, Nat.zero_le _⟩, fun h => absurd h (Nat.lt_irrefl _)⟩
                · exact hE.rd
              have hcn : CL.length ≤ 14 := by rw [hcl]; have := keptL_le L.length c q; omega
              have hcok : RowsOk AP c CL := by rw [hCL]; exact cmL_ok HR1.out
              have hcs : SameSp AP c (keptL L.length c q).length (keptM c (mt L) (keptL L.length c q)) CL.length (mt CL) := by rw [hCL]; exact cmL_same
              obtain ⟨p11, k11, rfl, _, _⟩ : ∃ p k, u11 = .slice p CL.length k ∧ CL.length ≤ k ∧ k ≤ maxLen := by
                obtain ⟨_, ⟨p, cap, e, ⟨h1, h2⟩, _⟩, _⟩ := hcr
                exact ⟨p, cap, e, h1, h2⟩
              have Hcr := Lib.hid hcr
              have Hcok := Lib.hid hcok
              have Hcs := Lib.hid hcs
              have HCL := Lib.hid hCL
              have hsw3 : w.heap.size + 1 + 1 + 1 ≤ w3.heap.size := by have := blk_lt ZZ3x.out; omega
              clear hI hE hb3 hcr hcok hcs hCL hcl
              go_wp2_with fail
              obtain ⟨cA0, cA1, cA2, cA3, cAf, cAz⟩ := blk4 ZA3x.out
              obtain ⟨cB0, cB1, cB2, cB3, cBf, cBz⟩ := blk4 ZB3x.out
              have hne1 : w.heap.size ≠ w.heap.size + 1 + 1 := by omega
              have hne2 : w.heap.size + 1 ≠ w.heap.size + 1 + 1 := by omega
              have hne3 : w.heap.size ≤ w.heap.size + 1 + 1 := by omega
              go_region_held3 (fun w' => ((w'.cell? ⟨w.heap.size, 0, none⟩ = some (.int .i64 AP) ∧ w'.cell? ⟨w.heap.size, 1, none⟩ = some (.int .i64 (ra : Int)) ∧ w'.cell? ⟨w.heap.size, 2, none⟩ = some (.int .i64 (c : Int)) ∧ w'.cell? ⟨w.heap.size, 3, none⟩ = some (.slice pA DA.length kA) ∧ w'.cell? ⟨w.heap.size + 1, 0, none⟩ = some (.int .i64 AP) ∧ w'.cell? ⟨w.heap.size + 1, 1, none⟩ = some (.int .i64 (rb : Int)) ∧ w'.cell? ⟨w.heap.size + 1, 2, none⟩ = some (.int .i64 (c : Int)) ∧ w'.cell? ⟨w.heap.size + 1, 3, none⟩ = some (.slice pB DB.length kB)) ∧ ∃ y0 y1 y2 y3, w'.heap[w.heap.size + 1 + 1]? = some (.cells #[y0, y1, y2, y3] 26 (0, 0))) ∧ Below w.heap.size w w')
                (first | exact ⟨⟨⟨cA0, cA1, cA2, cA3, cB0, cB1, cB2, cB3⟩, _, _, _, _, ZZ3x.out⟩, HB3x.out.drew⟩ | exact keep9 hb1 (by assumption) | exact keep9B hbB (by omega) (by omega) (by omega) (by omega) (by assumption) | exact keep9_set hne1 hne2 hne3 _ _ _ _ (by assumption))
                (first
                  | (go_at_call 33; refine (reduced_any _ CL c AP _ (Hcr.out.below (by first | exact Below.refl _ _ | exact (Below.refl _ _).drew)) Hcok.out Hpr.out (by omega) (by omega)).mono ?_; rintro e w' ⟨v, L2, q2, rfl, hoR, hb1, hR1, hR2, hR3, hR4, hR5⟩; obtain ⟨pv2, kv2, rfl, hkv1', hkv2'⟩ := hoR.shape; have hBz : Below w.heap.size w w' := (held_below (by assumption)).trans (hb1.mono (by have := held_lt (by assumption); omega)); have hfl := span_flat hR1; have hSr := held_lt (by assumption))
                  | (go_at_call 32; refine (matrixOf_any AP c _ L2 _ (OwnII.below hoR (by first | exact Below.refl _ _ | exact (Below.refl _ _).drew)).rd (span_small hR1 hR5 (by omega) (by omega))).mono ?_; rintro e w' ⟨um, rfl, hoM', hb1⟩; have hSm := held_lt (by assumption); have hBz : Below w.heap.size w w' := (held_below (by assumption)).trans (hb1.mono (by omega)); have hoM : OwnI 3 w' (w.heap.size + 1 + 1 + 1) w'.heap.size um L2.flatten := OwnI.mono hoM' hSm (Nat.le_refl _); clear hoM'; obtain ⟨FL, hFL⟩ : ∃ FL, FL = L2.flatten := ⟨_, rfl⟩; rw [← hFL] at hoM hfl; have HFL := Lib.hid hFL; clear hFL; obtain ⟨pm, km, rfl, _, _⟩ := hoM.shape; obtain ⟨y0, y1, y2, y3, hy⟩ := s9_blk (by assumption); have hy := blk_later hy hb1; obtain ⟨d0, d1, d2, d3, df, dz⟩ := blk4 hy))
              have hred : IsRed AP c (keptL L.length c q).length (keptM c (mt L) (keptL L.length c q)) L2.length (mt L2) q2 := ⟨hR2, hR3, fun i j hi hj => (hR1 i hi).2 j, Hcs.out.trans hR4⟩
              have Hred := Lib.hid hred
              have Hz4 := Lib.hid (set4_all hy (.int .i64 AP) (.int .i64 (L2.length : Int)) (.int .i64 (c : Int)) (.slice pm FL.length km))
              have HoM := Lib.hid hoM
              have HBz := Lib.hid hBz
              have Hfl := Lib.hid hfl
              clear hy hoM hBz hb1 d0 d1 d2 d3 df hred hR1 hR2 hR3 hR4 hfl hoR
              obtain ⟨f0, f1, f2, f3, ff, fz⟩ := blk4 Hz4.out
              go_wp2_with fail
              refine bodyPost_ret (v := .tuple #[.agg #[.int .i64 AP, .int .i64 (L2.length : Int), .int .i64 (c : Int), .slice pm FL.length km], .bool true]) (by simp [results, Try.results9, go_sem, f0, f1, f2, f3, fz]) rfl ⟨⟨AP, L2.length, c, FL⟩, ⟨_, rfl, ?_, ?_⟩, ?_⟩
              · exact (own_set4 HoM.out (.inl (by omega)) _ _ _ _).mono (by omega) (by simp only [size_setCell]; omega)
              · exact below_set4 HBz.out (by omega) _ _ _ _
              · refine ⟨L.length, mt L, q, ⟨HR2.out, HR3.out, fun i j hi hj => (HR1.out i hi).2 j, ?_⟩, L2.length, mt L2, q2, Hred.out, by rw [← Hfl.out]⟩
                exact (rrL_same HlA.out HlB.out).trans HR4.out

theorem implMeet_ex (AP AR AC BP BR BC : Int) (dA dB : Value) (DA DB : List Int) (w : World) (hdA : Ints w dA DA) (hdB : Ints w dB DB) :
    Calls Try.prog 9 #[.agg #[.int .i64 AP, .int .i64 AR, .int .i64 AC, dA], .agg #[.int .i64 BP, .int .i64 BR, .int .i64 BC, dB]] w fun e w' => ∃ m ok, MeIs AP AR AC DA BP BR BC DB m ok ∧ RetMB w m ok e w' := by
  by_cases h : TwoIs AP AR AC DA BP BR BC DB
  · exact (implMeet_yes AP AR AC BP BR BC dA dB DA DB w hdA hdB h).mono fun e w' ⟨m, r1, r2⟩ => ⟨m, true, .inl ⟨h, rfl, r2⟩, r1⟩
  · rcases Classical.em (IsSp AP AR AC DA) with ha | ha
    · rcases Classical.em (IsSp BP BR BC DB) with hb | hb
      · refine (implMeet_no3 AP AR AC BP BR BC dA dB DA DB w hdA hdB ha hb ?_).mono fun e w' r => ⟨_, _, .inr ⟨h, rfl, rfl⟩, r⟩
        cases hf : fitOk AP AC BP BC with
        | false => rfl
        | true =>
          simp [fitOk] at hf
          exact absurd ⟨ha, hb, hf.1, hf.2⟩ h
      · exact (implMeet_no2 AP AR AC BP BR BC dA dB DA DB w hdA hdB ha hb).mono fun e w' r => ⟨_, _, .inr ⟨h, rfl, rfl⟩, r⟩
    · exact (implMeet_no1 AP AR AC BP BR BC dA dB DA DB w hdA hdB ha).mono fun e w' r => ⟨_, _, .inr ⟨h, rfl, rfl⟩, r⟩
theorem implMeet_any (AP AR AC BP BR BC : Int) (dA dB : Value) (DA DB : List Int) (w : World) (hdA : Ints w dA DA) (hdB : Ints w dB DB) :
    Calls Try.prog 9 #[.agg #[.int .i64 AP, .int .i64 AR, .int .i64 AC, dA], .agg #[.int .i64 BP, .int .i64 BR, .int .i64 BC, dB]] w (RetMB w (Classical.epsilon (PrQ (MeIs AP AR AC DA BP BR BC DB))).1 (Classical.epsilon (PrQ (MeIs AP AR AC DA BP BR BC DB))).2) :=
  (implMeet_ex AP AR AC BP BR BC dA dB DA DB w hdA hdB).mono fun e w' ⟨m, ok, h1, h2⟩ => by
    obtain ⟨e1, e2⟩ := PrQ.eps MeIs.one h1
    rw [← e1, ← e2]; exact h2

end Go.Proofs.Ytmnlpkmnbjoicaa
