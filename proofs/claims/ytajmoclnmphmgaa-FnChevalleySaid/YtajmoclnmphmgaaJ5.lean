/-
  valueAt: the value of a polynomial at numbers.
  The law's helpers on slices of slices of ints: compared, written over, read again.
  append on an owned slice, once more: the block of what comes back is the old one, or new.
  The reference's l1Factorial and l1Decode.
-/
import Derived.Test.YtajmoclnmphmgaaJ3
import Derived.Test.YtajmoclnmphmgaaJ4
import Derived.Test.YtajmoclnmphmgaaJ1
namespace Go.Proofs.Ytajmoclnmphmgaa
set_option linter.all false
set_option maxRecDepth 100000
open Go.RowKit Go.Maps Go.WideMaps Go.WideElems Go.MapKept Go.ChangeMaps Go.ChangeShapes

/-- the product of the first n powers -/
def monoK (xs e : List Int) : Nat → Int
  | 0 => 1
  | n + 1 => monoK xs e n * xs.getD n 0 ^ (e.getD n 0).toNat
def mono (xs e : List Int) : Int := monoK xs e 7
/-- the numbers that a permutation picks -/
def pick (ws ys : List Int) (i : Nat) : Int := if i < ws.length then ys.getD (ws.getD i 0).toNat 0 else 0
def pickL (ws ys : List Int) : List Int := (List.range 7).map (pick ws ys)
theorem pickL_getD (ws ys : List Int) {i : Nat} (h : i < 7) : (pickL ws ys).getD i 0 = pick ws ys i := by
  unfold pickL
  rw [List.getD_eq_getElem?_getD, List.getElem?_map, List.getElem?_range h]; rfl
def GV (D : DU) (P : Pl) (m : List Int → Int) (left : Lit → Bool) (S : Int) : Prop := Cg (S + SmK D left fun l => m (unkl l)) (Ev P m)
theorem GV.start {w : World} {b n d : Nat} {D : DU} {P : Pl} (m : List Int → Int) (h : OwnMp w b n D) (hp : PolM d D P) : GV D P m (has D) 0 := by
  have := Gath.start (T := fun g => g) h hp m
  simpa [GV, Ev] using this
theorem GV.step {d : Nat} {D : DU} {P : Pl} {m : List Int → Int} {left : Lit → Bool} {S : Int} (h : GV D P m left S) (ht : Tidy D) {e : List Int} (he : K7 d e) (hd : d ≤ 1000000) (hl : left (kl e) = true) {c : Int}
    (hat : D.atKey (kl e) (.lit (.int .i64 0)) = .lit (.int .i64 c)) {S' : Int} (hS : Cg S' (S + c * m e)) : GV D P m (fun z => left z && !z.sameKey (kl e)) S' := by
  unfold GV at h ⊢
  rw [SmK_step ht (kl_lit e) hl, hat] at h
  simp only [coef, unkl_kl he hd] at h
  refine (hS.add (Cg.refl _)).trans ?_
  rw [Int.add_assoc]
  exact h
theorem GV.end {D : DU} {P : Pl} {m : List Int → Int} {left : Lit → Bool} {S : Int} (h : GV D P m left S) (hl : ∀ l, left l = false) : Cg S (Ev P m) := by
  unfold GV at h
  rw [SmK_none hl] at h
  simpa using h
theorem wrap_of_cg {S X : Int} (h : Cg S X) (h1 : -9223372036854775808 ≤ S) (h2 : S ≤ 9223372036854775807) : S = wrap64 X := by
  obtain ⟨m, rfl⟩ := h
  unfold wrap64 M64 at *
  omega
theorem wrap_in (x : Int) : -9223372036854775808 ≤ wrap64 x ∧ wrap64 x ≤ 9223372036854775807 := by unfold wrap64; omega

theorem wpList_index_run {P : Program} (w : World) {ops : Array Oper} {rest : List Oper} {o : Oper} {a : Act} {Q : Exit → Act → World → Prop} (hg : o.guard = none) (m x : Operand) (t : TypeId) (hop : o.op = Op.index t m x)
    (vm vx r : Value) (hm : a.eval m = vm) (hx : a.eval x = vx) (hrun : (Instr.index t vm vx).run P w = .ok r w) (hK : wpList P ops Q rest (a.put o.dst r) w) : wpList P ops Q (o :: rest) a w := by
  refine wpList_plain hg fun K' hK' => ?_
  unfold Oper.wp
  simp [execOp, hop, hm, hx, hrun, Result.andThen]
  exact hK' _ _ hK
theorem idx7_0 (a0 a1 a2 a3 a4 a5 a6 : Int) (W : World) : (Instr.index 81 (.agg #[.int .i64 a0, .int .i64 a1, .int .i64 a2, .int .i64 a3, .int .i64 a4, .int .i64 a5, .int .i64 a6]) (.int .i64 0)).run Try.prog W = .ok (.int .i64 a0) W := by kernel_rfl
theorem idx7_1 (a0 a1 a2 a3 a4 a5 a6 : Int) (W : World) : (Instr.index 81 (.agg #[.int .i64 a0, .int .i64 a1, .int .i64 a2, .int .i64 a3, .int .i64 a4, .int .i64 a5, .int .i64 a6]) (.int .i64 1)).run Try.prog W = .ok (.int .i64 a1) W := by kernel_rfl
theorem idx7_2 (a0 a1 a2 a3 a4 a5 a6 : Int) (W : World) : (Instr.index 81 (.agg #[.int .i64 a0, .int .i64 a1, .int .i64 a2, .int .i64 a3, .int .i64 a4, .int .i64 a5, .int .i64 a6]) (.int .i64 2)).run Try.prog W = .ok (.int .i64 a2) W := by kernel_rfl
theorem idx7_3 (a0 a1 a2 a3 a4 a5 a6 : Int) (W : World) : (Instr.index 81 (.agg #[.int .i64 a0, .int .i64 a1, .int .i64 a2, .int .i64 a3, .int .i64 a4, .int .i64 a5, .int .i64 a6]) (.int .i64 3)).run Try.prog W = .ok (.int .i64 a3) W := by kernel_rfl
theorem idx7_4 (a0 a1 a2 a3 a4 a5 a6 : Int) (W : World) : (Instr.index 81 (.agg #[.int .i64 a0, .int .i64 a1, .int .i64 a2, .int .i64 a3, .int .i64 a4, .int .i64 a5, .int .i64 a6]) (.int .i64 4)).run Try.prog W = .ok (.int .i64 a4) W := by kernel_rfl
theorem idx7_5 (a0 a1 a2 a3 a4 a5 a6 : Int) (W : World) : (Instr.index 81 (.agg #[.int .i64 a0, .int .i64 a1, .int .i64 a2, .int .i64 a3, .int .i64 a4, .int .i64 a5, .int .i64 a6]) (.int .i64 5)).run Try.prog W = .ok (.int .i64 a5) W := by kernel_rfl
theorem idx7_6 (a0 a1 a2 a3 a4 a5 a6 : Int) (W : World) : (Instr.index 81 (.agg #[.int .i64 a0, .int .i64 a1, .int .i64 a2, .int .i64 a3, .int .i64 a4, .int .i64 a5, .int .i64 a6]) (.int .i64 6)).run Try.prog W = .ok (.int .i64 a6) W := by kernel_rfl
set_option maxRecDepth 100000 in
set_option maxHeartbeats 16000000 in
theorem valueAt_any (u vw vy : Value) (d nf : Nat) (P : Pl) (ws ys : List Int) (w : World) (hf : PolV w u d nf P) (hd : d < 1000000) (hw : Ints w vw ws) (hy : Ints w vy ys) (hwl : ws.length ≤ 7)
    (hws : ∀ i, i < ws.length → ∃ m : Nat, ws.getD i 0 = (m : Int) ∧ m < ys.length) :
    Calls Try.prog 51 #[u, vw, vy] w fun e w' => e = .returned (.int .i64 (wrap64 (Ev P (mono (pickL ws ys))))) ∧ Below w.heap.size w w' := by
  obtain ⟨bf, Df, rfl, hf1, hf2⟩ := hf
  have hblf := hf1.lt
  have HF2 := Lib.hid hf2
  have Hws := Lib.hid hws
  obtain ⟨pw, cw, rfl, ⟨hw1, hw2⟩, hwc⟩ := hw
  obtain ⟨py, cy, rfl, ⟨hy1, hy2⟩, hyc⟩ := hy
  unfold maxLen at hw2 hy2
  obtain ⟨m, hm⟩ : ∃ m, m = mono (pickL ws ys) := ⟨_, rfl⟩
  have Hm := Lib.hid hm
  have hG0 := Lib.hid (GV.start m hf1 hf2)
  obtain ⟨B, hB⟩ : ∃ B, B = w.heap.size := ⟨_, rfl⟩
  have HB := Lib.hid hB
  have Hwc := Lib.hid hwc
  have Hyc := Lib.hid hyc
  rw [← hm]
  clear hf2 hws hm hwc hyc
  go_enter Try.func51, Try.ntmps51
  go_wp2_with (first
    | (at_range; refine wpList_range_own _ rfl _ 64 rfl 81 3 klaw und41 _ bf nf _ rfl hf1 ?_; intro w0 hrg0 hg0 hs0)
    | fail)
  go_frame
  have hbel0 : Below w.heap.size w w0 := (Below.refl _ _).grown hg0 (Nat.le_refl _) (fun j hj => by cases hj)
  rw [← hB] at hrg0 hs0 hbel0 hblf ⊢
  have Hbel0 := Lib.hid hbel0
  clear hbel0 hg0 hB
  go_loopg [7, 8, 9, 10, 11] (Maps.size Df) (fun g s7 s8 s9 s10 s11 wr => ∃ (left : Lit → Bool) (S : Int), s7 = .int .i64 S ∧ RanP wr bf B nf Df left g ∧ (∀ l, left l = true → has Df l = true) ∧
      Hid (-9223372036854775808 ≤ S ∧ S ≤ 9223372036854775807) ∧ Hid (GV Df P m left S) ∧ Hid (Below B w wr))
  case atStart => exact ⟨_, 0, rfl, hrg0, fun _ h => h, Lib.hid (by omega), hG0, Hbel0⟩
  case round =>
    obtain ⟨left, S, rfl, hrg, hleft, hS, hgv, hbel⟩ := hrel
    obtain ⟨wx, rfl⟩ : ∃ x : World, x = wr := ⟨_, rfl⟩
    go_wp2_with (first
      | (at_next; refine wpList_next_poly _ rfl _ rfl bf B nf d Df P left gk rfl hrg HF2.out (by omega) hleft ?_ ?_)
      | fail)
    · intro hc0 hl0
      have hend := wrap_of_cg (hgv.out.end hl0) hS.out.1 hS.out.2
      have Hend := Lib.hid hend
      clear hend
      go_wp2_with fail
      go_ret
      exact ⟨by rw [← Hend.out]; rfl, HB.out ▸ hbel.out⟩
    · intro a0 a1 a2 a3 a4 a5 a6 c w1 cnt1 hK hlx hwf hat hrg1 hlt hgr1 hs1 hen
      have Hat := Lib.hid hat
      have Hgr1 := Lib.hid hgr1
      have HK := Lib.hid hK
      have hBr := hrg.lt
      have Hbel1 := Lib.hid ((hbel.out.grown Hgr1.out (by omega) (fun j hj => by cases hj; omega)).alloc (by omega) (.cells #[.int .i64 a0, .int .i64 a1, .int .i64 a2, .int .i64 a3, .int .i64 a4, .int .i64 a5, .int .i64 a6] 81))
      have hrgU : RanP (w1.alloc (.cells #[.int .i64 a0, .int .i64 a1, .int .i64 a2, .int .i64 a3, .int .i64 a4, .int .i64 a5, .int .i64 a6] 81)) bf B nf Df (fun z => left z && !z.sameKey (kl [a0, a1, a2, a3, a4, a5, a6])) cnt1 := hrg1.alloc _
      have b0 := hK.2 a0 (by simp)
      have b1 := hK.2 a1 (by simp)
      have b2 := hK.2 a2 (by simp)
      have b3 := hK.2 a3 (by simp)
      have b4 := hK.2 a4 (by simp)
      have b5 := hK.2 a5 (by simp)
      have b6 := hK.2 a6 (by simp)
      clear hat hgr1 hK hrg hbel hrg1
      go_wp2_with fail
      clear hen
      obtain ⟨U, hU⟩ : ∃ U, U = w1.alloc (.cells #[.int .i64 a0, .int .i64 a1, .int .i64 a2, .int .i64 a3, .int .i64 a4, .int .i64 a5, .int .i64 a6] 81) := ⟨_, rfl⟩
      rw [← hU] at hrgU Hbel1 ⊢
      clear hU
      go_loopg [9, 10, 11, 20] 7 (fun g s9 s10 s11 s20 wr => ∃ (t : Nat) (C : Int), t ≤ 7 ∧ g = 7 - t ∧ s9 = .int .i64 C ∧ s20 = .int .i64 (t : Int) ∧ U = wr ∧
          Hid (Cg C (c * monoK (pickL ws ys) [a0, a1, a2, a3, a4, a5, a6] t)))
      case atStart => exact ⟨0, c, by omega, rfl, rfl, rfl, rfl, Lib.hid (Cg.of _ _ (by simp [monoK]))⟩
      case round =>
        obtain ⟨t, C, ht, rfl, rfl, rfl, rfl, hC⟩ := hrel
        by_cases ht7 : t < 7
        · have ht7i : (t : Int) < 7 := by omega
          obtain ⟨x, hx⟩ : ∃ x, x = pick ws ys t := ⟨_, rfl⟩
          have hxe : (pickL ws ys).getD t 0 = x := by rw [pickL_getD ws ys ht7, hx]
          have Hxe := Lib.hid hxe
          have Hx := Lib.hid hx
          have Hbel := Hbel1
          clear hxe hx
          have t7 : t = 0 ∨ t = 1 ∨ t = 2 ∨ t = 3 ∨ t = 4 ∨ t = 5 ∨ t = 6 := by omega
          rcases t7 with h0 | h0 | h0 | h0 | h0 | h0 | h0
          · subst h0
            have hidx := idx7_0 a0 a1 a2 a3 a4 a5 a6 U
            obtain ⟨ek, hek⟩ := Int.eq_ofNat_of_zero_le b0.1
            have Hek := Lib.hid hek
            clear hek
            go_wp2_with (first | (refine wpList_index_run _ rfl _ _ _ rfl _ _ _ rfl rfl hidx ?_) | fail)
            clear hidx
            go_loopg [9, 25] ek (fun g s9 s25 wr => ∃ (q : Nat) (C2 : Int), q ≤ ek ∧ g = ek - q ∧ s9 = .int .i64 C2 ∧ s25 = .int .i64 (q : Int) ∧ U = wr ∧ Hid (Cg C2 (C * x ^ q)))
            case atStart => exact ⟨0, C, by omega, rfl, rfl, rfl, rfl, Lib.hid (Cg.of _ _ (by simp))⟩
            case round =>
              obtain ⟨q, C2, hq, rfl, rfl, rfl, rfl, hC2⟩ := hrel
              by_cases hqe : q < ek
              · have hqi : (q : Int) < a0 := by have := Hek.out; omega
                have hstep : ∀ z, Cg z (C2 * x) → Cg z (C * x ^ (q + 1)) := fun z hz => hz.trans (by rw [Int.pow_succ, ← Int.mul_assoc]; exact hC2.out.mul (Cg.refl _))
                have Hstep := Lib.hid hstep
                clear hstep
                by_cases hlw : 0 < ws.length
                · have hlwi : (0 : Int) < (ws.length : Int) := by omega
                  obtain ⟨mm, hmm, hmy⟩ := Hws.out 0 hlw
                  obtain ⟨bw, ow, rfl, hcw⟩ := Hwc.out (by omega)
                  obtain ⟨bY, oy, rfl, hcy⟩ := Hyc.out (by omega)
                  have c1 := cell_below (HB.out ▸ Hbel1.out) (hcw 0 hlw)
                  have c2 := cell_below (HB.out ▸ Hbel1.out) (hcy mm hmy)
                  unfold iv at c1 c2
                  rw [hmm, Nat.add_zero] at c1
                  have hxx : ys.getD mm 0 = x := by rw [Hx.out]; unfold pick; rw [if_pos hlw, hmm]; rfl
                  rw [hxx] at c2
                  have hmi : (mm : Int) < (ys.length : Int) := by omega
                  clear hcw hcy hmm hxx
                  go_wp2_with fail
                  go_roundg (ek - (q + 1))
                  case measure => omega
                  case rel => exact ⟨q + 1, _, by omega, rfl, rfl, by go_num, rfl, Lib.hid (Hstep.out _ (cg_wrap _))⟩
                · have hlwi : ¬ (0 : Int) < (ws.length : Int) := by omega
                  have hx0 : x = 0 := by rw [Hx.out]; unfold pick; rw [if_neg hlw]
                  have Hx0 := Lib.hid hx0
                  clear hx0
                  go_wp2_with fail
                  go_roundg (ek - (q + 1))
                  case measure => omega
                  case rel => exact ⟨q + 1, _, by omega, rfl, rfl, by go_num, rfl, Lib.hid (Hstep.out _ (Cg.of _ _ (by rw [Hx0.out]; simp)))⟩
              · have hqi : ¬ (q : Int) < a0 := by have := Hek.out; omega
                obtain rfl : q = ek := by omega
                go_wp2_with fail
                go_roundg (7 - (0 + 1))
                case measure => omega
                case rel =>
                  refine ⟨0 + 1, C2, by omega, rfl, rfl, by go_num, rfl, Lib.hid ?_⟩
                  refine hC2.out.trans ?_
                  show Cg _ (c * (monoK (pickL ws ys) [a0, a1, a2, a3, a4, a5, a6] 0 * (pickL ws ys).getD 0 0 ^ (a0).toNat))
                  rw [Hxe.out, Hek.out, Int.toNat_natCast, ← Int.mul_assoc]
                  exact hC.out.mul (Cg.refl _)
          · subst h0
            have hidx := idx7_1 a0 a1 a2 a3 a4 a5 a6 U
            obtain ⟨ek, hek⟩ := Int.eq_ofNat_of_zero_le b1.1
            have Hek := Lib.hid hek
            clear hek
            go_wp2_with (first | (refine wpList_index_run _ rfl _ _ _ rfl _ _ _ rfl rfl hidx ?_) | fail)
            clear hidx
            go_loopg [9, 25] ek (fun g s9 s25 wr => ∃ (q : Nat) (C2 : Int), q ≤ ek ∧ g = ek - q ∧ s9 = .int .i64 C2 ∧ s25 = .int .i64 (q : Int) ∧ U = wr ∧ Hid (Cg C2 (C * x ^ q)))
            case atStart => exact ⟨0, C, by omega, rfl, rfl, rfl, rfl, Lib.hid (Cg.of _ _ (by simp))⟩
            case round =>
              obtain ⟨q, C2, hq, rfl, rfl, rfl, rfl, hC2⟩ := hrel
              by_cases hqe : q < ek
              · have hqi : (q : Int) < a1 := by have := Hek.out; omega
                have hstep : ∀ z, Cg z (C2 * x) → Cg z (C * x ^ (q + 1)) := fun z hz => hz.trans (by rw [Int.pow_succ, ← Int.mul_assoc]; exact hC2.out.mul (Cg.refl _))
                have Hstep := Lib.hid hstep
                clear hstep
                by_cases hlw : 1 < ws.length
                · have hlwi : (1 : Int) < (ws.length : Int) := by omega
                  obtain ⟨mm, hmm, hmy⟩ := Hws.out 1 hlw
                  obtain ⟨bw, ow, rfl, hcw⟩ := Hwc.out (by omega)
                  obtain ⟨bY, oy, rfl, hcy⟩ := Hyc.out (by omega)
                  have c1 := cell_below (HB.out ▸ Hbel1.out) (hcw 1 hlw)
                  have c2 := cell_below (HB.out ▸ Hbel1.out) (hcy mm hmy)
                  unfold iv at c1 c2
                  rw [hmm] at c1
                  have hxx : ys.getD mm 0 = x := by rw [Hx.out]; unfold pick; rw [if_pos hlw, hmm]; rfl
                  rw [hxx] at c2
                  have hmi : (mm : Int) < (ys.length : Int) := by omega
                  clear hcw hcy hmm hxx
                  go_wp2_with fail
                  go_roundg (ek - (q + 1))
                  case measure => omega
                  case rel => exact ⟨q + 1, _, by omega, rfl, rfl, by go_num, rfl, Lib.hid (Hstep.out _ (cg_wrap _))⟩
                · have hlwi : ¬ (1 : Int) < (ws.length : Int) := by omega
                  have hx0 : x = 0 := by rw [Hx.out]; unfold pick; rw [if_neg hlw]
                  have Hx0 := Lib.hid hx0
                  clear hx0
                  go_wp2_with fail
                  go_roundg (ek - (q + 1))
                  case measure => omega
                  case rel => exact ⟨q + 1, _, by omega, rfl, rfl, by go_num, rfl, Lib.hid (Hstep.out _ (Cg.of _ _ (by rw [Hx0.out]; simp)))⟩
              · have hqi : ¬ (q : Int) < a1 := by have := Hek.out; omega
                obtain rfl : q = ek := by omega
                go_wp2_with fail
                go_roundg (7 - (1 + 1))
                case measure => omega
                case rel =>
                  refine ⟨1 + 1, C2, by omega, rfl, rfl, by go_num, rfl, Lib.hid ?_⟩
                  refine hC2.out.trans ?_
                  show Cg _ (c * (monoK (pickL ws ys) [a0, a1, a2, a3, a4, a5, a6] 1 * (pickL ws ys).getD 1 0 ^ (a1).toNat))
                  rw [Hxe.out, Hek.out, Int.toNat_natCast, ← Int.mul_assoc]
                  exact hC.out.mul (Cg.refl _)
          · subst h0
            have hidx := idx7_2 a0 a1 a2 a3 a4 a5 a6 U
            obtain ⟨ek, hek⟩ := Int.eq_ofNat_of_zero_le b2.1
            have Hek := Lib.hid hek
            clear hek
            go_wp2_with (first | (refine wpList_index_run _ rfl _ _ _ rfl _ _ _ rfl rfl hidx ?_) | fail)
            clear hidx
            go_loopg [9, 25] ek (fun g s9 s25 wr => ∃ (q : Nat) (C2 : Int), q ≤ ek ∧ g = ek - q ∧ s9 = .int .i64 C2 ∧ s25 = .int .i64 (q : Int) ∧ U = wr ∧ Hid (Cg C2 (C * x ^ q)))
            case atStart => exact ⟨0, C, by omega, rfl, rfl, rfl, rfl, Lib.hid (Cg.of _ _ (by simp))⟩
            case round =>
              obtain ⟨q, C2, hq, rfl, rfl, rfl, rfl, hC2⟩ := hrel
              by_cases hqe : q < ek
              · have hqi : (q : Int) < a2 := by have := Hek.out; omega
                have hstep : ∀ z, Cg z (C2 * x) → Cg z (C * x ^ (q + 1)) := fun z hz => hz.trans (by rw [Int.pow_succ, ← Int.mul_assoc]; exact hC2.out.mul (Cg.refl _))
                have Hstep := Lib.hid hstep
                clear hstep
                by_cases hlw : 2 < ws.length
                · have hlwi : (2 : Int) < (ws.length : Int) := by omega
                  obtain ⟨mm, hmm, hmy⟩ := Hws.out 2 hlw
                  obtain ⟨bw, ow, rfl, hcw⟩ := Hwc.out (by omega)
                  obtain ⟨bY, oy, rfl, hcy⟩ := Hyc.out (by omega)
                  have c1 := cell_below (HB.out ▸ Hbel1.out) (hcw 2 hlw)
                  have c2 := cell_below (HB.out ▸ Hbel1.out) (hcy mm hmy)
                  unfold iv at c1 c2
                  rw [hmm] at c1
                  have hxx : ys.getD mm 0 = x := by rw [Hx.out]; unfold pick; rw [if_pos hlw, hmm]; rfl
                  rw [hxx] at c2
                  have hmi : (mm : Int) < (ys.length : Int) := by omega
                  clear hcw hcy hmm hxx
                  go_wp2_with fail
                  go_roundg (ek - (q + 1))
                  case measure => omega
                  case rel => exact ⟨q + 1, _, by omega, rfl, rfl, by go_num, rfl, Lib.hid (Hstep.out _ (cg_wrap _))⟩
                · have hlwi : ¬ (2 : Int) < (ws.length : Int) := by omega
                  have hx0 : x = 0 := by rw [Hx.out]; unfold pick; rw [if_neg hlw]
                  have Hx0 := Lib.hid hx0
                  clear hx0
                  go_wp2_with fail
                  go_roundg (ek - (q + 1))
                  case measure => omega
                  case rel => exact ⟨q + 1, _, by omega, rfl, rfl, by go_num, rfl, Lib.hid (Hstep.out _ (Cg.of _ _ (by rw [Hx0.out]; simp)))⟩
              · have hqi : ¬ (q : Int) < a2 := by have := Hek.out; omega
                obtain rfl : q = ek := by omega
                go_wp2_with fail
                go_roundg (7 - (2 + 1))
                case measure => omega
                case rel =>
                  refine ⟨2 + 1, C2, by omega, rfl, rfl, by go_num, rfl, Lib.hid ?_⟩
                  refine hC2.out.trans ?_
                  show Cg _ (c * (monoK (pickL ws ys) [a0, a1, a2, a3, a4, a5, a6] 2 * (pickL ws ys).getD 2 0 ^ (a2).toNat))
                  rw [Hxe.out, Hek.out, Int.toNat_natCast, ← Int.mul_assoc]
                  exact hC.out.mul (Cg.refl _)
          · subst h0
            have hidx := idx7_3 a0 a1 a2 a3 a4 a5 a6 U
            obtain ⟨ek, hek⟩ := Int.eq_ofNat_of_zero_le b3.1
            have Hek := Lib.hid hek
            clear hek
            go_wp2_with (first | (refine wpList_index_run _ rfl _ _ _ rfl _ _ _ rfl rfl hidx ?_) | fail)
            clear hidx
            go_loopg [9, 25] ek (fun g s9 s25 wr => ∃ (q : Nat) (C2 : Int), q ≤ ek ∧ g = ek - q ∧ s9 = .int .i64 C2 ∧ s25 = .int .i64 (q : Int) ∧ U = wr ∧ Hid (Cg C2 (C * x ^ q)))
            case atStart => exact ⟨0, C, by omega, rfl, rfl, rfl, rfl, Lib.hid (Cg.of _ _ (by simp))⟩
            case round =>
              obtain ⟨q, C2, hq, rfl, rfl, rfl, rfl, hC2⟩ := hrel
              by_cases hqe : q < ek
              · have hqi : (q : Int) < a3 := by have := Hek.out; omega
                have hstep : ∀ z, Cg z (C2 * x) → Cg z (C * x ^ (q + 1)) := fun z hz => hz.trans (by rw [Int.pow_succ, ← Int.mul_assoc]; exact hC2.out.mul (Cg.refl _))
                have Hstep := Lib.hid hstep
                clear hstep
                by_cases hlw : 3 < ws.length
                · have hlwi : (3 : Int) < (ws.length : Int) := by omega
                  obtain ⟨mm, hmm, hmy⟩ := Hws.out 3 hlw
                  obtain ⟨bw, ow, rfl, hcw⟩ := Hwc.out (by omega)
                  obtain ⟨bY, oy, rfl, hcy⟩ := Hyc.out (by omega)
                  have c1 := cell_below (HB.out ▸ Hbel1.out) (hcw 3 hlw)
                  have c2 := cell_below (HB.out ▸ Hbel1.out) (hcy mm hmy)
                  unfold iv at c1 c2
                  rw [hmm] at c1
                  have hxx : ys.getD mm 0 = x := by rw [Hx.out]; unfold pick; rw [if_pos hlw, hmm]; rfl
                  rw [hxx] at c2
                  have hmi : (mm : Int) < (ys.length : Int) := by omega
                  clear hcw hcy hmm hxx
                  go_wp2_with fail
                  go_roundg (ek - (q + 1))
                  case measure => omega
                  case rel => exact ⟨q + 1, _, by omega, rfl, rfl, by go_num, rfl, Lib.hid (Hstep.out _ (cg_wrap _))⟩
                · have hlwi : ¬ (3 : Int) < (ws.length : Int) := by omega
                  have hx0 : x = 0 := by rw [Hx.out]; unfold pick; rw [if_neg hlw]
                  have Hx0 := Lib.hid hx0
                  clear hx0
                  go_wp2_with fail
                  go_roundg (ek - (q + 1))
                  case measure => omega
                  case rel => exact ⟨q + 1, _, by omega, rfl, rfl, by go_num, rfl, Lib.hid (Hstep.out _ (Cg.of _ _ (by rw [Hx0.out]; simp)))⟩
              · have hqi : ¬ (q : Int) < a3 := by have := Hek.out; omega
                obtain rfl : q = ek := by omega
                go_wp2_with fail
                go_roundg (7 - (3 + 1))
                case measure => omega
                case rel =>
                  refine ⟨3 + 1, C2, by omega, rfl, rfl, by go_num, rfl, Lib.hid ?_⟩
                  refine hC2.out.trans ?_
                  show Cg _ (c * (monoK (pickL ws ys) [a0, a1, a2, a3, a4, a5, a6] 3 * (pickL ws ys).getD 3 0 ^ (a3).toNat))
                  rw [Hxe.out, Hek.out, Int.toNat_natCast, ← Int.mul_assoc]
                  exact hC.out.mul (Cg.refl _)
          · subst h0
            have hidx := idx7_4 a0 a1 a2 a3 a4 a5 a6 U
            obtain ⟨ek, hek⟩ := Int.eq_ofNat_of_zero_le b4.1
            have Hek := Lib.hid hek
            clear hek
            go_wp2_with (first | (refine wpList_index_run _ rfl _ _ _ rfl _ _ _ rfl rfl hidx ?_) | fail)
            clear hidx
            go_loopg [9, 25] ek (fun g s9 s25 wr => ∃ (q : Nat) (C2 : Int), q ≤ ek ∧ g = ek - q ∧ s9 = .int .i64 C2 ∧ s25 = .int .i64 (q : Int) ∧ U = wr ∧ Hid (Cg C2 (C * x ^ q)))
            case atStart => exact ⟨0, C, by omega, rfl, rfl, rfl, rfl, Lib.hid (Cg.of _ _ (by simp))⟩
            case round =>
              obtain ⟨q, C2, hq, rfl, rfl, rfl, rfl, hC2⟩ := hrel
              by_cases hqe : q < ek
              · have hqi : (q : Int) < a4 := by have := Hek.out; omega
                have hstep : ∀ z, Cg z (C2 * x) → Cg z (C * x ^ (q + 1)) := fun z hz => hz.trans (by rw [Int.pow_succ, ← Int.mul_assoc]; exact hC2.out.mul (Cg.refl _))
                have Hstep := Lib.hid hstep
                clear hstep
                by_cases hlw : 4 < ws.length
                · have hlwi : (4 : Int) < (ws.length : Int) := by omega
                  obtain ⟨mm, hmm, hmy⟩ := Hws.out 4 hlw
                  obtain ⟨bw, ow, rfl, hcw⟩ := Hwc.out (by omega)
                  obtain ⟨bY, oy, rfl, hcy⟩ := Hyc.out (by omega)
                  have c1 := cell_below (HB.out ▸ Hbel1.out) (hcw 4 hlw)
                  have c2 := cell_below (HB.out ▸ Hbel1.out) (hcy mm hmy)
                  unfold iv at c1 c2
                  rw [hmm] at c1
                  have hxx : ys.getD mm 0 = x := by rw [Hx.out]; unfold pick; rw [if_pos hlw, hmm]; rfl
                  rw [hxx] at c2
                  have hmi : (mm : Int) < (ys.length : Int) := by omega
                  clear hcw hcy hmm hxx
                  go_wp2_with fail
                  go_roundg (ek - (q + 1))
                  case measure => omega
                  case rel => exact ⟨q + 1, _, by omega, rfl, rfl, by go_num, rfl, Lib.hid (Hstep.out _ (cg_wrap _))⟩
                · have hlwi : ¬ (4 : Int) < (ws.length : Int) := by omega
                  have hx0 : x = 0 := by rw [Hx.out]; unfold pick; rw [if_neg hlw]
                  have Hx0 := Lib.hid hx0
                  clear hx0
                  go_wp2_with fail
                  go_roundg (ek - (q + 1))
                  case measure => omega
                  case rel => exact ⟨q + 1, _, by omega, rfl, rfl, by go_num, rfl, Lib.hid (Hstep.out _ (Cg.of _ _ (by rw [Hx0.out]; simp)))⟩
              · have hqi : ¬ (q : Int) < a4 := by have := Hek.out; omega
                obtain rfl : q = ek := by omega
                go_wp2_with fail
                go_roundg (7 - (4 + 1))
                case measure => omega
                case rel =>
                  refine ⟨4 + 1, C2, by omega, rfl, rfl, by go_num, rfl, Lib.hid ?_⟩
                  refine hC2.out.trans ?_
                  show Cg _ (c * (monoK (pickL ws ys) [a0, a1, a2, a3, a4, a5, a6] 4 * (pickL ws ys).getD 4 0 ^ (a4).toNat))
                  rw [Hxe.out, Hek.out, Int.toNat_natCast, ← Int.mul_assoc]
                  exact hC.out.mul (Cg.refl _)
          · subst h0
            have hidx := idx7_5 a0 a1 a2 a3 a4 a5 a6 U
            obtain ⟨ek, hek⟩ := Int.eq_ofNat_of_zero_le b5.1
            have Hek := Lib.hid hek
            clear hek
            go_wp2_with (first | (refine wpList_index_run _ rfl _ _ _ rfl _ _ _ rfl rfl hidx ?_) | fail)
            clear hidx
            go_loopg [9, 25] ek (fun g s9 s25 wr => ∃ (q : Nat) (C2 : Int), q ≤ ek ∧ g = ek - q ∧ s9 = .int .i64 C2 ∧ s25 = .int .i64 (q : Int) ∧ U = wr ∧ Hid (Cg C2 (C * x ^ q)))
            case atStart => exact ⟨0, C, by omega, rfl, rfl, rfl, rfl, Lib.hid (Cg.of _ _ (by simp))⟩
            case round =>
              obtain ⟨q, C2, hq, rfl, rfl, rfl, rfl, hC2⟩ := hrel
              by_cases hqe : q < ek
              · have hqi : (q : Int) < a5 := by have := Hek.out; omega
                have hstep : ∀ z, Cg z (C2 * x) → Cg z (C * x ^ (q + 1)) := fun z hz => hz.trans (by rw [Int.pow_succ, ← Int.mul_assoc]; exact hC2.out.mul (Cg.refl _))
                have Hstep := Lib.hid hstep
                clear hstep
                by_cases hlw : 5 < ws.length
                · have hlwi : (5 : Int) < (ws.length : Int) := by omega
                  obtain ⟨mm, hmm, hmy⟩ := Hws.out 5 hlw
                  obtain ⟨bw, ow, rfl, hcw⟩ := Hwc.out (by omega)
                  obtain ⟨bY, oy, rfl, hcy⟩ := Hyc.out (by omega)
                  have c1 := cell_below (HB.out ▸ Hbel1.out) (hcw 5 hlw)
                  have c2 := cell_below (HB.out ▸ Hbel1.out) (hcy mm hmy)
                  unfold iv at c1 c2
                  rw [hmm] at c1
                  have hxx : ys.getD mm 0 = x := by rw [Hx.out]; unfold pick; rw [if_pos hlw, hmm]; rfl
                  rw [hxx] at c2
                  have hmi : (mm : Int) < (ys.length : Int) := by omega
                  clear hcw hcy hmm hxx
                  go_wp2_with fail
                  go_roundg (ek - (q + 1))
                  case measure => omega
                  case rel => exact ⟨q + 1, _, by omega, rfl, rfl, by go_num, rfl, Lib.hid (Hstep.out _ (cg_wrap _))⟩
                · have hlwi : ¬ (5 : Int) < (ws.length : Int) := by omega
                  have hx0 : x = 0 := by rw [Hx.out]; unfold pick; rw [if_neg hlw]
                  have Hx0 := Lib.hid hx0
                  clear hx0
                  go_wp2_with fail
                  go_roundg (ek - (q + 1))
                  case measure => omega
                  case rel => exact ⟨q + 1, _, by omega, rfl, rfl, by go_num, rfl, Lib.hid (Hstep.out _ (Cg.of _ _ (by rw [Hx0.out]; simp)))⟩
              · have hqi : ¬ (q : Int) < a5 := by have := Hek.out; omega
                obtain rfl : q = ek := by omega
                go_wp2_with fail
                go_roundg (7 - (5 + 1))
                case measure => omega
                case rel =>
                  refine ⟨5 + 1, C2, by omega, rfl, rfl, by go_num, rfl, Lib.hid ?_⟩
                  refine hC2.out.trans ?_
                  show Cg _ (c * (monoK (pickL ws ys) [a0, a1, a2, a3, a4, a5, a6] 5 * (pickL ws ys).getD 5 0 ^ (a5).toNat))
                  rw [Hxe.out, Hek.out, Int.toNat_natCast, ← Int.mul_assoc]
                  exact hC.out.mul (Cg.refl _)
          · subst h0
            have hidx := idx7_6 a0 a1 a2 a3 a4 a5 a6 U
            obtain ⟨ek, hek⟩ := Int.eq_ofNat_of_zero_le b6.1
            have Hek := Lib.hid hek
            clear hek
            go_wp2_with (first | (refine wpList_index_run _ rfl _ _ _ rfl _ _ _ rfl rfl hidx ?_) | fail)
            clear hidx
            go_loopg [9, 25] ek (fun g s9 s25 wr => ∃ (q : Nat) (C2 : Int), q ≤ ek ∧ g = ek - q ∧ s9 = .int .i64 C2 ∧ s25 = .int .i64 (q : Int) ∧ U = wr ∧ Hid (Cg C2 (C * x ^ q)))
            case atStart => exact ⟨0, C, by omega, rfl, rfl, rfl, rfl, Lib.hid (Cg.of _ _ (by simp))⟩
            case round =>
              obtain ⟨q, C2, hq, rfl, rfl, rfl, rfl, hC2⟩ := hrel
              by_cases hqe : q < ek
              · have hqi : (q : Int) < a6 := by have := Hek.out; omega
                have hstep : ∀ z, Cg z (C2 * x) → Cg z (C * x ^ (q + 1)) := fun z hz => hz.trans (by rw [Int.pow_succ, ← Int.mul_assoc]; exact hC2.out.mul (Cg.refl _))
                have Hstep := Lib.hid hstep
                clear hstep
                by_cases hlw : 6 < ws.length
                · have hlwi : (6 : Int) < (ws.length : Int) := by omega
                  obtain ⟨mm, hmm, hmy⟩ := Hws.out 6 hlw
                  obtain ⟨bw, ow, rfl, hcw⟩ := Hwc.out (by omega)
                  obtain ⟨bY, oy, rfl, hcy⟩ := Hyc.out (by omega)
                  have c1 := cell_below (HB.out ▸ Hbel1.out) (hcw 6 hlw)
                  have c2 := cell_below (HB.out ▸ Hbel1.out) (hcy mm hmy)
                  unfold iv at c1 c2
                  rw [hmm] at c1
                  have hxx : ys.getD mm 0 = x := by rw [Hx.out]; unfold pick; rw [if_pos hlw, hmm]; rfl
                  rw [hxx] at c2
                  have hmi : (mm : Int) < (ys.length : Int) := by omega
                  clear hcw hcy hmm hxx
                  go_wp2_with fail
                  go_roundg (ek - (q + 1))
                  case measure => omega
                  case rel => exact ⟨q + 1, _, by omega, rfl, rfl, by go_num, rfl, Lib.hid (Hstep.out _ (cg_wrap _))⟩
                · have hlwi : ¬ (6 : Int) < (ws.length : Int) := by omega
                  have hx0 : x = 0 := by rw [Hx.out]; unfold pick; rw [if_neg hlw]
                  have Hx0 := Lib.hid hx0
                  clear hx0
                  go_wp2_with fail
                  go_roundg (ek - (q + 1))
                  case measure => omega
                  case rel => exact ⟨q + 1, _, by omega, rfl, rfl, by go_num, rfl, Lib.hid (Hstep.out _ (Cg.of _ _ (by rw [Hx0.out]; simp)))⟩
              · have hqi : ¬ (q : Int) < a6 := by have := Hek.out; omega
                obtain rfl : q = ek := by omega
                go_wp2_with fail
                go_roundg (7 - (6 + 1))
                case measure => omega
                case rel =>
                  refine ⟨6 + 1, C2, by omega, rfl, rfl, by go_num, rfl, Lib.hid ?_⟩
                  refine hC2.out.trans ?_
                  show Cg _ (c * (monoK (pickL ws ys) [a0, a1, a2, a3, a4, a5, a6] 6 * (pickL ws ys).getD 6 0 ^ (a6).toNat))
                  rw [Hxe.out, Hek.out, Int.toNat_natCast, ← Int.mul_assoc]
                  exact hC.out.mul (Cg.refl _)
        · have ht7i : ¬ (t : Int) < 7 := by omega
          obtain rfl : t = 7 := by omega
          go_wp2_with fail
          go_roundg cnt1
          case measure => exact hlt
          case rel =>
            refine ⟨_, _, rfl, hrgU, has_sub hleft, Lib.hid (wrap_in _), Lib.hid (hgv.out.step HF2.out.tidy HK.out (by omega) hlx Hat.out ?_), Hbel1⟩
            rw [Hm.out]
            exact (cg_wrap _).trans ((Cg.refl _).add hC.out)

end Go.Proofs.Ytajmoclnmphmgaa

namespace Go.Proofs.Ytajmoclnmphmgaa
set_option linter.all false
open Go.RowKit

theorem ints_at {w : World} {v : Value} {rows : List (List Int)} {f : Nat → Value} (h : ∀ i, i < rows.length → Ints w (f i) (rows.getD i [])) {i : Nat} (hi : i < rows.length) :
    ∃ p cap, f i = .slice p (rows.getD i []).length cap ∧ (rows.getD i []).length ≤ cap ∧ cap ≤ maxLen := by
  obtain ⟨p, cap, e, ⟨h1, h2⟩, _⟩ := h i hi
  exact ⟨p, cap, e, h1, h2⟩

theorem keep2 {wr W W' : World} {a0 a1 : Addr} {v0 v1 : Value} (hb : Below W.heap.size W W') (h : (W.cell? a0 = some v0 ∧ W.cell? a1 = some v1) ∧ Below wr.heap.size wr W) :
    (W'.cell? a0 = some v0 ∧ W'.cell? a1 = some v1) ∧ Below wr.heap.size wr W' := ⟨⟨cell_below hb h.1.1, cell_below hb h.1.2⟩, below_trans h.2 hb⟩

/-- two lists of lists are the same row by row -/
theorem rows_eq {xs ys : List (List Int)} (hl : xs.length = ys.length) (h : ∀ j, j < xs.length → xs.getD j [] = ys.getD j []) : xs = ys := by
  apply List.ext_getElem hl
  intro i h1 h2
  have := h i h1
  simpa [List.getD_eq_getElem?_getD, h1, h2] using this

/-- slices of different types lie in different blocks -/
theorem own_types {Ts Ti : TypeId} {w : World} {lo hi lo1 hi1 n : Nat} {v y : Value} {f : Nat → Value} {ys : List Int} (g1 : OwnF w lo hi Ts v n f) (hy : OwnI Ti w lo1 hi1 y ys) (hT : Ts ≠ Ti)
    {k : Nat} (hv : v.ownBlock = some k) (hk : y.ownBlock = some k) : False := by
  obtain ⟨zs, hz, _⟩ := g1
  rcases Own.row hz with ⟨e1, _⟩ | ⟨g, cap', F, e1, _, _, _, _, hr, _⟩
  · rw [e1] at hv; simp [Value.ownBlock] at hv
  · rw [e1] at hv
    simp only [Value.ownBlock, Option.some.injEq] at hv
    subst hv
    rcases Own.row hy with ⟨e2, _⟩ | ⟨g', cap2, F2, e2, _, _, _, _, hr2, _⟩
    · rw [e2] at hk; simp [Value.ownBlock] at hk
    · rw [e2] at hk
      simp only [Value.ownBlock, Option.some.injEq] at hk
      subst hk
      obtain ⟨c, hc, _⟩ := hr
      obtain ⟨c2, hc2, _⟩ := hr2
      rw [hc] at hc2
      injection hc2 with hc2
      injection hc2 with _ hc2
      exact hT hc2
/-- an owned slice lies in its own block, or in none -/
theorem OwnI.tight {T : TypeId} {w : World} {lo hi : Nat} {v : Value} {xs : List Int} (h : OwnI T w lo hi v xs) :
    ∃ lo' hi', OwnI T w lo' hi' v xs ∧ (∀ k, lo' ≤ k → k < hi' → v.ownBlock = some k ∧ lo ≤ k ∧ k < hi) := by
  obtain ⟨⟨hl, hr⟩, hh⟩ := h
  rcases hr with ⟨rfl, h0⟩ | ⟨g, cap, cur, rfl, hg, r⟩
  · exact ⟨0, 0, ⟨⟨hl, .inl ⟨rfl, h0⟩⟩, fun k hk => by simp [Value.ownBlock] at hk⟩, fun k h1 h2 => absurd h2 (Nat.not_lt_zero _)⟩
  · refine ⟨g, g + 1, ⟨⟨hl, .inr ⟨g, cap, cur, rfl, Nat.le_refl _, r⟩⟩, fun k hk => by simp [Value.ownBlock] at hk; omega⟩, fun k h1 h2 => ?_⟩
    obtain rfl : k = g := by omega
    exact ⟨rfl, hg, hh k rfl⟩

theorem OwnI.widen {T : TypeId} {w : World} {lo hi lo' hi' : Nat} {v : Value} {xs : List Int} (h : OwnI T w lo' hi' v xs) (hin : ∀ k, v.ownBlock = some k → lo ≤ k ∧ k < hi) : OwnI T w lo hi v xs := by
  obtain ⟨⟨hl, hr⟩, hh⟩ := h
  rcases hr with ⟨rfl, h0⟩ | ⟨g, cap, cur, rfl, hg, r⟩
  · exact ⟨⟨hl, .inl ⟨rfl, h0⟩⟩, fun k hk => by simp [Value.ownBlock] at hk⟩
  · exact ⟨⟨hl, .inr ⟨g, cap, cur, rfl, (hin g rfl).1, r⟩⟩, fun k hk => (hin k hk).2⟩
theorem OwnI.besides {T : TypeId} {w w' : World} {lo hi lo' hi' : Nat} {v : Value} {xs : List Int} (h : OwnI T w lo hi v xs) (hf : Frm lo' hi' w w') (hne : ∀ b, v.ownBlock = some b → b < lo' ∨ hi' ≤ b) : OwnI T w' lo hi v xs :=
  ⟨ownsRow_of_block h.1 fun b hb => hf.block b (Own.block h hb).2.2 (hne b hb), h.2⟩
theorem OwnF.besides {T : TypeId} {w w' : World} {lo hi lo' hi' n : Nat} {v : Value} {f : Nat → Value} (h : OwnF w lo hi T v n f) (hf : Frm lo' hi' w w') (hne : ∀ b, v.ownBlock = some b → b < lo' ∨ hi' ≤ b) : OwnF w' lo hi T v n f := by
  obtain ⟨xs, h, hx⟩ := h
  exact ⟨xs, ⟨ownsRow_of_block h.1 fun b hb => hf.block b (Own.block h hb).2.2 (hne b hb), h.2⟩, hx⟩

/-- how many numbers the first k rows have -/
def pre (rows : List (List Int)) (k : Nat) : Nat := (rows.take k).flatten.length
theorem pre_zero (rows : List (List Int)) : pre rows 0 = 0 := by simp [pre]
theorem pre_succ (rows : List (List Int)) (k : Nat) (h : k < rows.length) : pre rows (k + 1) = pre rows k + (rows.getD k []).length := by
  have e : rows[k]? = some (rows.getD k []) := by rw [List.getD_eq_getElem?_getD, List.getElem?_eq_getElem h]; rfl
  unfold pre
  rw [List.take_add_one, List.flatten_append, List.length_append, e]
  simp only [Option.toList, List.flatten_cons, List.flatten_nil, List.append_nil]
theorem pre_le (rows : List (List Int)) (k : Nat) : pre rows k ≤ rows.flatten.length := by
  have e : rows.flatten.length = (rows.take k).flatten.length + (rows.drop k).flatten.length := by
    rw [← List.length_append, ← List.flatten_append, List.take_append_drop]
  unfold pre; omega
theorem pre_all (rows : List (List Int)) : pre rows rows.length = rows.flatten.length := by simp [pre]
/-- the rows, written over by m, m+1, .. -/
def runsII (m : Int) (rows : List (List Int)) : List (List Int) := (List.range rows.length).map fun i => runs (m + pre rows i) (rows.getD i []).length
theorem length_runsII (m : Int) (rows : List (List Int)) : (runsII m rows).length = rows.length := by simp [runsII]
theorem getD_runsII (m : Int) (rows : List (List Int)) {i : Nat} (h : i < rows.length) : (runsII m rows).getD i [] = runs (m + pre rows i) (rows.getD i []).length := by
  simp [runsII, List.getD_eq_getElem?_getD, h]

end Go.Proofs.Ytajmoclnmphmgaa

namespace Go.Proofs.Ytajmoclnmphmgaa
set_option linter.all false
open Go.RowKit

theorem run_append_where {P : Program} (w : World) (t ty e : TypeId) (i : TypeInfo) (z : Value) (bytes : Nat) (ht : P.underlying t = some (.slice e)) (hi : P.info? e = some i) (hz : i.zero = some z)
    (hsize : i.size = 1) (hby : i.bytes = bytes) (hzs : z.cells.size = 1)
    (lo hi' : Nat) (v : Value) (n : Nat) (f : Nat → Value) (hown : OwnF w lo hi' e v n f)
    (u : Value) (m : Nat) (g : Nat → Value) (hx : Rd w u m g) (h1 : ∀ j, j < m → (g j).oneCell' = true) (h63 : n + m ≤ maxLen) (hbytes : (n + m) * bytes ≤ 140737488355328) {v' : Value} {w' : World}
    (hr : (Builtin.append_ #[t, t] ty #[v, u]).run P w = .ok v' w') : ∀ b, v'.ownBlock = some b → v.ownBlock = some b ∨ w.heap.size ≤ b := by
  obtain ⟨q, c, rfl, ⟨hmc, hcm⟩, hxc⟩ := hx
  have hsm : n + m ≤ 9223372036854775807 := by unfold maxLen at h63; omega
  by_cases hm : m = 0
  · subst hm
    obtain ⟨p, cap, rfl, hnc, _, _⟩ := hown.shape
    rw [run_append_none w t ty e i ht hi p q n cap c hnc] at hr
    injection hr with e1 e2
    subst e1
    exact fun b hb => .inl hb
  · obtain ⟨b, off, rfl, hc⟩ := hxc (by omega)
    have hnews : ∀ (j : Nat) (v : Value), ((List.range m).map g)[j]? = some v → w.cell? ((⟨b, off, none⟩ : Addr).add j) = some v := fun j x hx => by
      have hj : j < m := by
        rcases Nat.lt_or_ge j m with h | h
        · exact h
        · rw [List.getElem?_eq_none (by simpa using h)] at hx; cases hx
      simp [hj] at hx
      subst hx
      have hadd : (⟨b, off, none⟩ : Addr).add j = ⟨b, off + j, none⟩ := by unfold Addr.add; split <;> simp_all
      rw [hadd]
      exact hc j hj
    obtain ⟨xs, ho, hf⟩ := hown
    rcases ho.1.2 with ⟨rfl, rfl⟩ | ⟨gg, cap, cur, rfl, hbg, hg, hnc, hcm2, hcs, htake⟩
    · have hr2 := run_append_nil (P := P) w t ty e i z ht hi hz ⟨b, off, none⟩ m c ((List.range m).map g) (by simp [hsize]) hnews (by omega) (by omega) (by rw [hby]; simp only [Nat.zero_add] at hbytes; omega)
      rw [hr2] at hr
      injection hr with e1 e2
      subst e1
      intro b hb
      simp [Value.ownBlock] at hb
      exact .inr (by omega)
    · by_cases hroom : n + m ≤ cap
      · have hr2 := run_append_room (P := P) w t ty e i ht hi gg n cap cur hg ⟨b, off, none⟩ m c ((List.range m).map g) (by simp [hsize]) hnews (fun x hx => by
            simp only [List.mem_map, List.mem_range] at hx
            obtain ⟨j, hj, rfl⟩ := hx
            exact h1 j hj) hroom (by simp [hsize, hcs]; omega)
        rw [hr2] at hr
        injection hr with e1 e2
        subst e1
        exact fun b hb => .inl hb
      · have hr2 := run_append_grow (P := P) w t ty e i z ht hi hz ⟨gg, 0, none⟩ n cap xs (by rw [ho.len, hsize]) (ho.1.cells (g := gg) rfl) ⟨b, off, none⟩ m c ((List.range m).map g) (by simp [hsize]) hnews (by omega) (by omega) (growslice_fits (by omega) (by rw [hby]; exact hbytes))
        rw [hr2] at hr
        injection hr with e1 e2
        subst e1
        intro b hb
        simp [Value.ownBlock] at hb
        exact .inr (by omega)

/-- as wpList_append_F, with one fact more: where the block lies -/
theorem wpList_append_G {P : Program} {w : World} {ops : Array Oper} {rest : List Oper} {o : Oper} {a : Act} {Q : Exit → Act → World → Prop} (hgd : o.guard = none) (s x : Operand) (t : TypeId)
    (ho : o.op = .call { callee := .builtin .append, args := #[s, x], argTypes := #[t, t] })
    (e : TypeId) (z : Value) (bytes : Nat) (ht : P.underlying t = some (.slice e)) (hinfo : (P.info? e).map (fun i => (i.zero, i.size, i.bytes)) = some (some z, 1, bytes)) (hzs : z.cells.size = 1)
    (lo hi' : Nat) (v : Value) (n : Nat) (f : Nat → Value) (hs : a.eval s = v) (hown : OwnF w lo hi' e v n f) (hlo : lo ≤ w.heap.size) (hhi : hi' ≤ w.heap.size)
    (u : Value) (m : Nat) (g : Nat → Value) (hxu : a.eval x = u) (hx : Rd w u m g) (h1 : ∀ j, j < m → (g j).oneCell' = true) (h63 : n + m ≤ maxLen) (hbytes : (n + m) * bytes ≤ 140737488355328)
    (h : ∀ v' w', OwnF w' lo w'.heap.size e v' (n + m) (fun j => if j < n then f j else g (j - n)) → w.grownBy w' v.ownBlock → (∀ b, v'.ownBlock = some b → v.ownBlock = some b ∨ w.heap.size ≤ b) → wpList P ops Q rest (a.put o.dst v') w') :
    wpList P ops Q (o :: rest) a w := by
  refine wpList_plain hgd fun K hK' => ?_
  obtain ⟨i, hi, hz, hsz, hby⟩ := info_parts hinfo
  obtain ⟨v', w', hr, h2, h3⟩ := run_append_F (P := P) w t o.type e i z bytes ht hi hz hsz hby hzs lo hi' v n f hown hlo hhi u m g hx h1 h63 hbytes
  have h4 := run_append_where (P := P) w t o.type e i z bytes ht hi hz hsz hby hzs lo hi' v n f hown u m g hx h1 h63 hbytes hr
  unfold Oper.wp
  simp [execOp, ho, resolve, invoke, builtin, hs, hxu, hr, Result.andThen]
  exact hK' _ _ (h v' w' h2 h3 h4)

theorem Frm.of_drew {lo hi : Nat} {w w' : World} (h : Frm lo hi w.drew w') : Frm lo hi w w' := ⟨h.os, h.tape, h.output, h.size, h.block⟩
theorem below_of_drew {B : Nat} {w w' : World} (h : Below B w.drew w') : Below B w w' := ⟨h.os, h.tape, h.output, h.size, h.block⟩
/-- behind an append: a list of lists whose blocks are others stays -/
theorem OwnII.grown {Ts Ti : TypeId} {w w' : World} {lo hi : Nat} {v u : Value} {rows : List (List Int)} (h : OwnII Ts Ti w lo hi v rows) (hg : w.grownBy w' u.ownBlock) (hne : ∀ b, u.ownBlock = some b → b < lo ∨ hi ≤ b) : OwnII Ts Ti w' lo hi v rows :=
  h.keep fun k h1 h2 h3 => hg.block k h3 fun e => by have := hne k e.symm; omega

end Go.Proofs.Ytajmoclnmphmgaa

namespace Go.Proofs.Ytajmoclnmphmgaa
set_option linter.all false
open Go.RowKit

def fact : Nat → Nat
  | 0 => 1
  | n + 1 => (n + 1) * fact n
theorem fact_pos (n : Nat) : 1 ≤ fact n := by
  induction n with
  | zero => exact Nat.le_refl _
  | succ n ih => exact Nat.le_trans ih (Nat.le_mul_of_pos_left _ (Nat.succ_pos n))
theorem fact_le {a b : Nat} (h : a ≤ b) : fact a ≤ fact b := by
  induction h with
  | refl => exact Nat.le_refl _
  | step _ ih => exact Nat.le_trans ih (Nat.le_mul_of_pos_left _ (Nat.succ_pos _))

set_option maxRecDepth 100000 in
set_option maxHeartbeats 1000000 in
theorem specFactorial_any (n : Nat) (hn : n ≤ 12) (w : World) :
    Calls Try.prog 83 #[.int .i64 n] w fun e w' => e = .returned (.int .i64 (fact n)) ∧ Qt w w' := by
  have hfn : fact n ≤ fact 12 := fact_le hn
  have h12 : fact 12 = 479001600 := by decide
  go_enter Try.func83, Try.ntmps83
  go_wp2
  go_loopg [3, 4] n (fun g s3 i wr => ∃ k : Nat, (k = 0 ∨ k + 1 ≤ n) ∧ g = n - k ∧ i = .int .i64 (k + 2 : Nat) ∧ s3 = .int .i64 (fact (k + 1)) ∧ Qt w wr)
  case atStart => exact ⟨0, .inl rfl, rfl, rfl, rfl, Qt.refl _⟩
  case round =>
    obtain ⟨k, hk, rfl, rfl, rfl, hq⟩ := hrel
    by_cases hlt : k + 2 ≤ n
    · have hb : fact (k + 2) ≤ fact 12 := fact_le (by omega)
      have he : (fact (k + 2) : Int) = (fact (k + 1) : Int) * ((k + 2 : Nat) : Int) := by
        rw [show fact (k + 2) = (k + 2) * fact (k + 1) from rfl, Nat.mul_comm]; push_cast; rfl
      generalize hF : (fact (k + 1) : Int) = F at he
      generalize hI : ((k + 2 : Nat) : Int) = I at he
      have hm1 : 0 ≤ F * I := by omega
      have hm2 : F * I ≤ 479001600 := by omega
      have hI2 : I = (k : Int) + 2 := by omega
      have He := Lib.hid he
      have HF := Lib.hid hF
      clear hb he hF hI hfn h12
      go_wp2
      go_roundg (n - (k + 1))
      case measure => omega
      case rel => exact ⟨k + 1, .inr (by omega), rfl, by go_num, by rw [show k + 1 + 1 = k + 2 from rfl, He.out, ← hI2, w64 (by omega) (by omega)], hq⟩
    · go_wp2
      go_ret
      refine ⟨ret_int ?_, hq⟩
      rcases hk with rfl | hk
      · have : n = 0 ∨ n = 1 := by omega
        rcases this with rfl | rfl <;> rfl
      · rw [show k + 1 = n by omega]

/-- the left-th number that is not in out is put behind it -/
def decGo (out : List Int) : Nat → Nat → Nat → List Int
  | 0, _, _ => out
  | f + 1, v, left => if (v : Int) ∈ out then decGo out f (v + 1) left else if left = 0 then out ++ [(v : Int)] else decGo out f (v + 1) (left - 1)
def decL (n : Nat) (c : List Nat) : List Int := c.foldl (fun out left => decGo out n 0 left) []
theorem decL_snoc (n : Nat) (c : List Nat) (x : Nat) : decL n (c ++ [x]) = decGo (decL n c) n 0 x := by simp [decL]

theorem decGo_len (out : List Int) (f v left : Nat) : (decGo out f v left).length ≤ out.length + 1 := by
  induction f generalizing v left with
  | zero => simp [decGo]
  | succ f ih =>
    unfold decGo
    split
    · exact ih _ _
    · split
      · simp
      · exact ih _ _
theorem decL_len (n : Nat) (c : List Nat) (k : Nat) : (decL n (c.take k)).length ≤ k := by
  induction k with
  | zero => simp [decL]
  | succ k ih =>
    by_cases h : k < c.length
    · have e : c.take (k + 1) = c.take k ++ [c[k]] := by rw [List.take_add_one, List.getElem?_eq_getElem h]; rfl
      rw [e, decL_snoc]
      exact Nat.le_trans (decGo_len _ _ _ _) (by omega)
    · rw [List.take_of_length_le (by omega)]
      rw [List.take_of_length_le (by omega)] at ih
      omega

set_option maxRecDepth 100000 in
set_option maxHeartbeats 2000000 in
theorem specDecode_any (v : Value) (c : List Nat) (w : World) (h : Ints w v (c.map Int.ofNat)) (hn : c.length ≤ 100) (hs : ∀ x ∈ c, x ≤ 1000000) :
    Calls Try.prog 76 #[v] w (RetI w (decL c.length c)) := by
  obtain ⟨p, cap, rfl, ⟨hx1, hx⟩, hxc⟩ := h
  rw [List.length_map] at *
  unfold maxLen at hx
  have Hxc := Lib.hid hxc
  have Hs := Lib.hid hs
  clear hxc hs
  go_enter Try.func76, Try.ntmps76
  go_wp2
  go_loopg [3, 4] c.length (fun g s3 i wr => ∃ k : Nat, k ≤ c.length ∧ g = c.length - k ∧ i = .int .i64 k ∧ Below w.heap.size w wr ∧ OwnI 3 wr w.heap.size wr.heap.size s3 (decL c.length (c.take k)))
  case atStart => exact ⟨0, Nat.zero_le _, rfl, rfl, below_alloc _ _, (OwnF.ints (xs := []) ((OwnF.made0 w _ _))).mono (Nat.le_refl _) (by simp)⟩
  case round =>
    obtain ⟨k, hk, rfl, rfl, hb, ho⟩ := hrel
    by_cases hlt : k < c.length
    · obtain ⟨b, off, rfl, hc⟩ := Hxc.out (by omega)
      have c1 := cell_below hb (hc k hlt)
      have e1 : iv (c.map Int.ofNat) k = .int .i64 (c.getD k 0 : Nat) := by simp [iv, List.getD_eq_getElem?_getD, hlt]
      rw [e1] at c1
      have hck : c.getD k 0 ≤ 1000000 := Hs.out _ (by simp [List.getD_eq_getElem?_getD, hlt])
      have e2 : decL c.length (c.take (k + 1)) = decGo (decL c.length (c.take k)) c.length 0 (c.getD k 0) := by
        rw [List.take_add_one, List.getElem?_eq_getElem hlt]
        simp only [Option.toList]
        rw [decL_snoc]
        simp [List.getD_eq_getElem?_getD, hlt]
      have hln := decL_len c.length c k
      generalize hX : c.getD k 0 = X at c1 hck e2
      generalize hO : decL c.length (c.take k) = out at ho e2 hln
      have E2 := Lib.hid e2
      have Ho := Lib.hid ho
      obtain ⟨p3, k3, rfl, _, _⟩ := ho.shape
      clear hc e1 e2 hX hO ho
      obtain ⟨wo, rfl⟩ : ∃ x : World, x = wr := ⟨_, rfl⟩
      go_wp2
      go_loopg [3, 5, 6] c.length (fun g s3 s5 s6 wr => ∃ left v : Nat, v ≤ c.length ∧ left ≤ 1000000 ∧ g = c.length - v ∧ s3 = .slice p3 out.length k3 ∧ s5 = .int .i64 left ∧ s6 = .int .i64 v ∧ Qt wo wr ∧ Hid (decGo out (c.length - v) v left = decGo out c.length 0 X))
      case atStart => exact ⟨X, 0, Nat.zero_le _, hck, rfl, rfl, rfl, rfl, Qt.refl _, rfl⟩
      case round =>
        obtain ⟨left, v, hv, hleft, rfl, rfl, rfl, rfl, hq, hg⟩ := hrel
        by_cases hvlt : v < c.length
        · by_cases hmem : (v : Int) ∈ out
          · have hc := l1Has_any _ out v wr (Ho.out.ints.qt hq)
            rw [decide_eq_true hmem] at hc
            have Hc := Lib.hid hc
            have hg2 : decGo out (c.length - (v + 1)) (v + 1) left = decGo out c.length 0 X := by
              rw [← hg.out, show c.length - v = (c.length - (v + 1)) + 1 by omega]
              simp [decGo, hmem]
            have Hg2 := Lib.hid hg2
            clear hc hg hg2 hmem
            go_wp2_with fail
            refine Hc.out.mono ?_
            rintro e w1 ⟨rfl, hq1⟩
            go_wp2_with fail
            go_roundg (c.length - (v + 1))
            case measure => omega
            case rel => exact ⟨left, v + 1, by omega, hleft, rfl, rfl, rfl, by go_num, hq.trans hq1, Hg2.out⟩
          · have hc := l1Has_any _ out v wr (Ho.out.ints.qt hq)
            rw [decide_eq_false hmem] at hc
            have Hc := Lib.hid hc
            by_cases hl0 : left = 0
            · subst hl0
              have hg2 : out ++ [(v : Int)] = decGo out c.length 0 X := by
                rw [← hg.out, show c.length - v = (c.length - (v + 1)) + 1 by omega]
                simp [decGo, hmem]
              have Hg2 := Lib.hid hg2
              clear hc hg hg2 hmem
              go_wp2_with fail
              refine Hc.out.mono ?_
              rintro e w1 ⟨rfl, hq1⟩
              have Hq1 := Lib.hid (hq.trans hq1)
              have Ho1 := Lib.hid (Ho.out.below (Hq1.out.below _))
              have Hb1 := Lib.hid (show out.length + 1 ≤ maxLen by unfold maxLen; omega)
              have Hb2 := Lib.hid (show (out.length + 1) * 8 ≤ 140737488355328 by omega)
              have Hsz : Hid (w1.heap.size = wo.heap.size) := by unfold Hid; rw [Hq1.out.size]
              have hsw := hb.size
              go_wp2_with (at_builtin; go_must (refine wpList_append_F rfl (.tmp 29) (.tmp 31) 22 rfl 3 (.int .i64 0) 8 Try.underlying22 info_int rfl w.heap.size wo.heap.size _ out.length (iv out) rfl ((Ho1.out.below (below_alloc _ _)).fn) (by have := Hsz.out; simp; omega) (by have := Hsz.out; simp; omega) _ _ _ rfl (rd_one _ _ _ rfl) (fun j _ => rfl) Hb1.out Hb2.out ?_; intro v' w' ho' hg'))
              have hsw' := hg'.size
              simp only [size_alloc] at hsw'
              have hsz := Hsz.out
              have hblow : Below w.heap.size wo w' := (Hq1.out.below _).trans (((below_alloc w1 _).mono (by omega)).trans (grownBy_below hg' Ho1.out.fn.blocks (Nat.le_refl _) (by simp; omega)))
              go_roundg (c.length - (k + 1))
              case measure => omega
              case rel =>
                refine ⟨k + 1, by omega, rfl, by go_num, hb.trans hblow, ?_⟩
                rw [E2.out, ← Hg2.out]
                refine OwnF.ints ?_
                rw [List.length_append]
                exact ho'.congr fun j hj => by
                  by_cases h : j < out.length
                  · simp [h, iv, List.getD_eq_getElem?_getD, List.getElem?_append_left h]
                  · have : j = out.length := by omega
                    subst this
                    simp [iv, List.getD_eq_getElem?_getD]
            · have hg2 : decGo out (c.length - (v + 1)) (v + 1) (left - 1) = decGo out c.length 0 X := by
                rw [← hg.out, show c.length - v = (c.length - (v + 1)) + 1 by omega]
                simp [decGo, hmem, hl0]
              have Hg2 := Lib.hid hg2
              clear hc hg hg2 hmem
              go_wp2_with fail
              refine Hc.out.mono ?_
              rintro e w1 ⟨rfl, hq1⟩
              go_wp2_with fail
              go_roundg (c.length - (v + 1))
              case measure => omega
              case rel => exact ⟨left - 1, v + 1, by omega, by omega, rfl, rfl, by go_num, by go_num, hq.trans hq1, Hg2.out⟩
        · have hv2 : v = c.length := by omega
          subst hv2
          have hg2 : out = decGo out c.length 0 X := by
            rw [← hg.out, Nat.sub_self]; rfl
          have Hg2 := Lib.hid hg2
          clear hg hg2
          go_wp2_with fail
          go_roundg (c.length - (k + 1))
          case measure => omega
          case rel =>
            refine ⟨k + 1, by omega, rfl, by go_num, hb.trans (hq.below _), ?_⟩
            rw [E2.out, ← Hg2.out, hq.size]
            exact Ho.out.below (hq.below _)
    · go_wp2
      go_ret
      obtain rfl : k = c.length := by omega
      rw [List.take_length] at ho
      exact ⟨_, rfl, ho, hb⟩

end Go.Proofs.Ytajmoclnmphmgaa
