/-
  valueAt: the value of a polynomial at numbers.
  The reference's l1Factorial and l1Decode.
  The reference's l8Perms and AllPerms.
  The plain law of AllPerms: the program's list of permutations is the reference's.
-/
import Derived.Test.YtlbflckoodjokaaGreatJ8
import Derived.Test.YtlbflckoodjokaaGreatJ2
import Derived.Test.YtlbflckoodjokaaGreatJ3
import Derived.Test.YtlbflckoodjokaaGreatJ1
namespace Go.Proofs.YtlbflckoodjokaaGreat
set_option linter.all false
set_option maxRecDepth 100000
open Go.RowKit Go.Maps Go.WideMaps Go.WideElems Go.MapKept Go.ChangeMaps Go.ChangeShapes

/-- the product of the first n powers -/
def monoK (xs e : List Int) : Nat → Int
  | 0 => 1
  | n + 1 => monoK xs e n * xs.getD n 0 ^ (e.getD n 0).toNat
def mono (xs e : List Int) : Int := monoK xs e 7
/-- the numbers that a permutation picks -/
def pick (ws ys : List Int) (i : Nat) : Int := if i < ws.length then ys.getD (ws.getD i 0).toNat 0 else 0
def pickL (ws ys : List Int) : List Int := (List.range 7).map (pick ws ys)
theorem pickL_getD (ws ys : List Int) {i : Nat} (h : i < 7) : (pickL ws ys).getD i 0 = pick ws ys i := by
  unfold pickL
  rw [List.getD_eq_getElem?_getD, List.getElem?_map, List.getElem?_range h]; rfl
def GV (D : DU) (P : Pl) (m : List Int → Int) (left : Lit → Bool) (S : Int) : Prop := Cg (S + SmK D left fun l => m (unkl l)) (Ev P m)
theorem GV.start {w : World} {b n d : Nat} {D : DU} {P : Pl} (m : List Int → Int) (h : OwnMp w b n D) (hp : PolM d D P) : GV D P m (has D) 0 := by
  have := Gath.start (T := fun g => g) h hp m
  simpa [GV, Ev] using this
theorem GV.step {d : Nat} {D : DU} {P : Pl} {m : List Int → Int} {left : Lit → Bool} {S : Int} (h : GV D P m left S) (ht : Tidy D) {e : List Int} (he : K7 d e) (hd : d ≤ 1000000) (hl : left (kl e) = true) {c : Int}
    (hat : D.atKey (kl e) (.lit (.int .i64 0)) = .lit (.int .i64 c)) {S' : Int} (hS : Cg S' (S + c * m e)) : GV D P m (fun z => left z && !z.sameKey (kl e)) S' := by
  unfold GV at h ⊢
  rw [SmK_step ht (kl_lit e) hl, hat] at h
  simp only [coef, unkl_kl he hd] at h
  refine (hS.add (Cg.refl _)).trans ?_
  rw [Int.add_assoc]
  exact h
theorem GV.end {D : DU} {P : Pl} {m : List Int → Int} {left : Lit → Bool} {S : Int} (h : GV D P m left S) (hl : ∀ l, left l = false) : Cg S (Ev P m) := by
  unfold GV at h
  rw [SmK_none hl] at h
  simpa using h
theorem wrap_of_cg {S X : Int} (h : Cg S X) (h1 : -9223372036854775808 ≤ S) (h2 : S ≤ 9223372036854775807) : S = wrap64 X := by
  obtain ⟨m, rfl⟩ := h
  unfold wrap64 M64 at *
  omega
theorem wrap_in (x : Int) : -9223372036854775808 ≤ wrap64 x ∧ wrap64 x ≤ 9223372036854775807 := by unfold wrap64; omega

theorem wpList_index_run {P : Program} (w : World) {ops : Array Oper} {rest : List Oper} {o : Oper} {a : Act} {Q : Exit → Act → World → Prop} (hg : o.guard = none) (m x : Operand) (t : TypeId) (hop : o.op = Op.index t m x)
    (vm vx r : Value) (hm : a.eval m = vm) (hx : a.eval x = vx) (hrun : (Instr.index t vm vx).run P w = .ok r w) (hK : wpList P ops Q rest (a.put o.dst r) w) : wpList P ops Q (o :: rest) a w := by
  refine wpList_plain hg fun K' hK' => ?_
  unfold Oper.wp
  simp [execOp, hop, hm, hx, hrun, Result.andThen]
  exact hK' _ _ hK
theorem idx7_0 (a0 a1 a2 a3 a4 a5 a6 : Int) (W : World) : (Instr.index 72 (.agg #[.int .i64 a0, .int .i64 a1, .int .i64 a2, .int .i64 a3, .int .i64 a4, .int .i64 a5, .int .i64 a6]) (.int .i64 0)).run Tryz.prog W = .ok (.int .i64 a0) W := by kernel_rfl
theorem idx7_1 (a0 a1 a2 a3 a4 a5 a6 : Int) (W : World) : (Instr.index 72 (.agg #[.int .i64 a0, .int .i64 a1, .int .i64 a2, .int .i64 a3, .int .i64 a4, .int .i64 a5, .int .i64 a6]) (.int .i64 1)).run Tryz.prog W = .ok (.int .i64 a1) W := by kernel_rfl
theorem idx7_2 (a0 a1 a2 a3 a4 a5 a6 : Int) (W : World) : (Instr.index 72 (.agg #[.int .i64 a0, .int .i64 a1, .int .i64 a2, .int .i64 a3, .int .i64 a4, .int .i64 a5, .int .i64 a6]) (.int .i64 2)).run Tryz.prog W = .ok (.int .i64 a2) W := by kernel_rfl
theorem idx7_3 (a0 a1 a2 a3 a4 a5 a6 : Int) (W : World) : (Instr.index 72 (.agg #[.int .i64 a0, .int .i64 a1, .int .i64 a2, .int .i64 a3, .int .i64 a4, .int .i64 a5, .int .i64 a6]) (.int .i64 3)).run Tryz.prog W = .ok (.int .i64 a3) W := by kernel_rfl
theorem idx7_4 (a0 a1 a2 a3 a4 a5 a6 : Int) (W : World) : (Instr.index 72 (.agg #[.int .i64 a0, .int .i64 a1, .int .i64 a2, .int .i64 a3, .int .i64 a4, .int .i64 a5, .int .i64 a6]) (.int .i64 4)).run Tryz.prog W = .ok (.int .i64 a4) W := by kernel_rfl
theorem idx7_5 (a0 a1 a2 a3 a4 a5 a6 : Int) (W : World) : (Instr.index 72 (.agg #[.int .i64 a0, .int .i64 a1, .int .i64 a2, .int .i64 a3, .int .i64 a4, .int .i64 a5, .int .i64 a6]) (.int .i64 5)).run Tryz.prog W = .ok (.int .i64 a5) W := by kernel_rfl
theorem idx7_6 (a0 a1 a2 a3 a4 a5 a6 : Int) (W : World) : (Instr.index 72 (.agg #[.int .i64 a0, .int .i64 a1, .int .i64 a2, .int .i64 a3, .int .i64 a4, .int .i64 a5, .int .i64 a6]) (.int .i64 6)).run Tryz.prog W = .ok (.int .i64 a6) W := by kernel_rfl
set_option maxRecDepth 100000 in
set_option maxHeartbeats 16000000 in
theorem valueAt_any (u vw vy : Value) (d nf : Nat) (P : Pl) (ws ys : List Int) (w : World) (hf : PolV w u d nf P) (hd : d < 1000000) (hw : Ints w vw ws) (hy : Ints w vy ys) (hwl : ws.length ≤ 7)
    (hws : ∀ i, i < ws.length → ∃ m : Nat, ws.getD i 0 = (m : Int) ∧ m < ys.length) :
    Calls Tryz.prog 56 #[u, vw, vy] w fun e w' => e = .returned (.int .i64 (wrap64 (Ev P (mono (pickL ws ys))))) ∧ Below w.heap.size w w' := by
  obtain ⟨bf, Df, rfl, hf1, hf2⟩ := hf
  have hblf := hf1.lt
  have HF2 := Lib.hid hf2
  have Hws := Lib.hid hws
  obtain ⟨pw, cw, rfl, ⟨hw1, hw2⟩, hwc⟩ := hw
  obtain ⟨py, cy, rfl, ⟨hy1, hy2⟩, hyc⟩ := hy
  unfold maxLen at hw2 hy2
  obtain ⟨m, hm⟩ : ∃ m, m = mono (pickL ws ys) := ⟨_, rfl⟩
  have Hm := Lib.hid hm
  have hG0 := Lib.hid (GV.start m hf1 hf2)
  obtain ⟨B, hB⟩ : ∃ B, B = w.heap.size := ⟨_, rfl⟩
  have HB := Lib.hid hB
  have Hwc := Lib.hid hwc
  have Hyc := Lib.hid hyc
  rw [← hm]
  clear hf2 hws hm hwc hyc
  go_enter Tryz.func56, Tryz.ntmps56
  go_wp2_with (first
    | (at_range; refine wpList_range_own _ rfl _ 62 rfl 72 3 klaw und41 _ bf nf _ rfl hf1 ?_; intro w0 hrg0 hg0 hs0)
    | fail)
  go_frame
  have hbel0 : Below w.heap.size w w0 := (Below.refl _ _).grown hg0 (Nat.le_refl _) (fun j hj => by cases hj)
  rw [← hB] at hrg0 hs0 hbel0 hblf ⊢
  have Hbel0 := Lib.hid hbel0
  clear hbel0 hg0 hB
  go_loopg [7, 8, 9, 10, 11] (Maps.size Df) (fun g s7 s8 s9 s10 s11 wr => ∃ (left : Lit → Bool) (S : Int), s7 = .int .i64 S ∧ RanP wr bf B nf Df left g ∧ (∀ l, left l = true → has Df l = true) ∧
      Hid (-9223372036854775808 ≤ S ∧ S ≤ 9223372036854775807) ∧ Hid (GV Df P m left S) ∧ Hid (Below B w wr))
  case atStart => exact ⟨_, 0, rfl, hrg0, fun _ h => h, Lib.hid (by omega), hG0, Hbel0⟩
  case round =>
    obtain ⟨left, S, rfl, hrg, hleft, hS, hgv, hbel⟩ := hrel
    obtain ⟨wx, rfl⟩ : ∃ x : World, x = wr := ⟨_, rfl⟩
    go_wp2_with (first
      | (at_next; refine wpList_next_poly _ rfl _ rfl bf B nf d Df P left gk rfl hrg HF2.out (by omega) hleft ?_ ?_)
      | fail)
    · intro hc0 hl0
      have hend := wrap_of_cg (hgv.out.end hl0) hS.out.1 hS.out.2
      have Hend := Lib.hid hend
      clear hend
      go_wp2_with fail
      go_ret
      exact ⟨by rw [← Hend.out]; rfl, HB.out ▸ hbel.out⟩
    · intro a0 a1 a2 a3 a4 a5 a6 c w1 cnt1 hK hlx hwf hat hrg1 hlt hgr1 hs1 hen
      have Hat := Lib.hid hat
      have Hgr1 := Lib.hid hgr1
      have HK := Lib.hid hK
      have hBr := hrg.lt
      have Hbel1 := Lib.hid ((hbel.out.grown Hgr1.out (by omega) (fun j hj => by cases hj; omega)).alloc (by omega) (.cells #[.int .i64 a0, .int .i64 a1, .int .i64 a2, .int .i64 a3, .int .i64 a4, .int .i64 a5, .int .i64 a6] 72))
      have hrgU : RanP (w1.alloc (.cells #[.int .i64 a0, .int .i64 a1, .int .i64 a2, .int .i64 a3, .int .i64 a4, .int .i64 a5, .int .i64 a6] 72)) bf B nf Df (fun z => left z && !z.sameKey (kl [a0, a1, a2, a3, a4, a5, a6])) cnt1 := hrg1.alloc _
      have b0 := hK.2 a0 (by simp)
      have b1 := hK.2 a1 (by simp)
      have b2 := hK.2 a2 (by simp)
      have b3 := hK.2 a3 (by simp)
      have b4 := hK.2 a4 (by simp)
      have b5 := hK.2 a5 (by simp)
      have b6 := hK.2 a6 (by simp)
      clear hat hgr1 hK hrg hbel hrg1
      go_wp2_with fail
      clear hen
      obtain ⟨U, hU⟩ : ∃ U, U = w1.alloc (.cells #[.int .i64 a0, .int .i64 a1, .int .i64 a2, .int .i64 a3, .int .i64 a4, .int .i64 a5, .int .i64 a6] 72) := ⟨_, rfl⟩
      rw [← hU] at hrgU Hbel1 ⊢
      clear hU
      go_loopg [9, 10, 11, 20] 7 (fun g s9 s10 s11 s20 wr => ∃ (t : Nat) (C : Int), t ≤ 7 ∧ g = 7 - t ∧ s9 = .int .i64 C ∧ s20 = .int .i64 (t : Int) ∧ U = wr ∧
          Hid (Cg C (c * monoK (pickL ws ys) [a0, a1, a2, a3, a4, a5, a6] t)))
      case atStart => exact ⟨0, c, by omega, rfl, rfl, rfl, rfl, Lib.hid (Cg.of _ _ (by simp [monoK]))⟩
      case round =>
        obtain ⟨t, C, ht, rfl, rfl, rfl, rfl, hC⟩ := hrel
        by_cases ht7 : t < 7
        · have ht7i : (t : Int) < 7 := by omega
          obtain ⟨x, hx⟩ : ∃ x, x = pick ws ys t := ⟨_, rfl⟩
          have hxe : (pickL ws ys).getD t 0 = x := by rw [pickL_getD ws ys ht7, hx]
          have Hxe := Lib.hid hxe
          have Hx := Lib.hid hx
          have Hbel := Hbel1
          clear hxe hx
          have t7 : t = 0 ∨ t = 1 ∨ t = 2 ∨ t = 3 ∨ t = 4 ∨ t = 5 ∨ t = 6 := by omega
          rcases t7 with h0 | h0 | h0 | h0 | h0 | h0 | h0
          · subst h0
            have hidx := idx7_0 a0 a1 a2 a3 a4 a5 a6 U
            obtain ⟨ek, hek⟩ := Int.eq_ofNat_of_zero_le b0.1
            have Hek := Lib.hid hek
            clear hek
            go_wp2_with (first | (refine wpList_index_run _ rfl _ _ _ rfl _ _ _ rfl rfl hidx ?_) | fail)
            clear hidx
            go_loopg [9, 25] ek (fun g s9 s25 wr => ∃ (q : Nat) (C2 : Int), q ≤ ek ∧ g = ek - q ∧ s9 = .int .i64 C2 ∧ s25 = .int .i64 (q : Int) ∧ U = wr ∧ Hid (Cg C2 (C * x ^ q)))
            case atStart => exact ⟨0, C, by omega, rfl, rfl, rfl, rfl, Lib.hid (Cg.of _ _ (by simp))⟩
            case round =>
              obtain ⟨q, C2, hq, rfl, rfl, rfl, rfl, hC2⟩ := hrel
              by_cases hqe : q < ek
              · have hqi : (q : Int) < a0 := by have := Hek.out; omega
                have hstep : ∀ z, Cg z (C2 * x) → Cg z (C * x ^ (q + 1)) := fun z hz => hz.trans (by rw [Int.pow_succ, ← Int.mul_assoc]; exact hC2.out.mul (Cg.refl _))
                have Hstep := Lib.hid hstep
                clear hstep
                by_cases hlw : 0 < ws.length
                · have hlwi : (0 : Int) < (ws.length : Int) := by omega
                  obtain ⟨mm, hmm, hmy⟩ := Hws.out 0 hlw
                  obtain ⟨bw, ow, rfl, hcw⟩ := Hwc.out (by omega)
                  obtain ⟨bY, oy, rfl, hcy⟩ := Hyc.out (by omega)
                  have c1 := cell_below (HB.out ▸ Hbel1.out) (hcw 0 hlw)
                  have c2 := cell_below (HB.out ▸ Hbel1.out) (hcy mm hmy)
                  unfold iv at c1 c2
                  rw [hmm, Nat.add_zero] at c1
                  have hxx : ys.getD mm 0 = x := by rw [Hx.out]; unfold pick; rw [if_pos hlw, hmm]; rfl
                  rw [hxx] at c2
                  have hmi : (mm : Int) < (ys.length : Int) := by omega
                  clear hcw hcy hmm hxx
                  go_wp2_with fail
                  go_roundg (ek - (q + 1))
                  case measure => omega
                  case rel => exact ⟨q + 1, _, by omega, rfl, rfl, by go_num, rfl, Lib.hid (Hstep.out _ (cg_wrap _))⟩
                · have hlwi : ¬ (0 : Int) < (ws.length : Int) := by omega
                  have hx0 : x = 0 := by rw [Hx.out]; unfold pick; rw [if_neg hlw]
                  have Hx0 := Lib.hid hx0
                  clear hx0
                  go_wp2_with fail
                  go_roundg (ek - (q + 1))
                  case measure => omega
                  case rel => exact ⟨q + 1, _, by omega, rfl, rfl, by go_num, rfl, Lib.hid (Hstep.out _ (Cg.of _ _ (by rw [Hx0.out]; simp)))⟩
              · have hqi : ¬ (q : Int) < a0 := by have := Hek.out; omega
                obtain rfl : q = ek := by omega
                go_wp2_with fail
                go_roundg (7 - (0 + 1))
                case measure => omega
                case rel =>
                  refine ⟨0 + 1, C2, by omega, rfl, rfl, by go_num, rfl, Lib.hid ?_⟩
                  refine hC2.out.trans ?_
                  show Cg _ (c * (monoK (pickL ws ys) [a0, a1, a2, a3, a4, a5, a6] 0 * (pickL ws ys).getD 0 0 ^ (a0).toNat))
                  rw [Hxe.out, Hek.out, Int.toNat_natCast, ← Int.mul_assoc]
                  exact hC.out.mul (Cg.refl _)
          · subst h0
            have hidx := idx7_1 a0 a1 a2 a3 a4 a5 a6 U
            obtain ⟨ek, hek⟩ := Int.eq_ofNat_of_zero_le b1.1
            have Hek := Lib.hid hek
            clear hek
            go_wp2_with (first | (refine wpList_index_run _ rfl _ _ _ rfl _ _ _ rfl rfl hidx ?_) | fail)
            clear hidx
            go_loopg [9, 25] ek (fun g s9 s25 wr => ∃ (q : Nat) (C2 : Int), q ≤ ek ∧ g = ek - q ∧ s9 = .int .i64 C2 ∧ s25 = .int .i64 (q : Int) ∧ U = wr ∧ Hid (Cg C2 (C * x ^ q)))
            case atStart => exact ⟨0, C, by omega, rfl, rfl, rfl, rfl, Lib.hid (Cg.of _ _ (by simp))⟩
            case round =>
              obtain ⟨q, C2, hq, rfl, rfl, rfl, rfl, hC2⟩ := hrel
              by_cases hqe : q < ek
              · have hqi : (q : Int) < a1 := by have := Hek.out; omega
                have hstep : ∀ z, Cg z (C2 * x) → Cg z (C * x ^ (q + 1)) := fun z hz => hz.trans (by rw [Int.pow_succ, ← Int.mul_assoc]; exact hC2.out.mul (Cg.refl _))
                have Hstep := Lib.hid hstep
                clear hstep
                by_cases hlw : 1 < ws.length
                · have hlwi : (1 : Int) < (ws.length : Int) := by omega
                  obtain ⟨mm, hmm, hmy⟩ := Hws.out 1 hlw
                  obtain ⟨bw, ow, rfl, hcw⟩ := Hwc.out (by omega)
                  obtain ⟨bY, oy, rfl, hcy⟩ := Hyc.out (by omega)
                  have c1 := cell_below (HB.out ▸ Hbel1.out) (hcw 1 hlw)
                  have c2 := cell_below (HB.out ▸ Hbel1.out) (hcy mm hmy)
                  unfold iv at c1 c2
                  rw [hmm] at c1
                  have hxx : ys.getD mm 0 = x := by rw [Hx.out]; unfold pick; rw [if_pos hlw, hmm]; rfl
                  rw [hxx] at c2
                  have hmi : (mm : Int) < (ys.length : Int) := by omega
                  clear hcw hcy hmm hxx
                  go_wp2_with fail
                  go_roundg (ek - (q + 1))
                  case measure => omega
                  case rel => exact ⟨q + 1, _, by omega, rfl, rfl, by go_num, rfl, Lib.hid (Hstep.out _ (cg_wrap _))⟩
                · have hlwi : ¬ (1 : Int) < (ws.length : Int) := by omega
                  have hx0 : x = 0 := by rw [Hx.out]; unfold pick; rw [if_neg hlw]
                  have Hx0 := Lib.hid hx0
                  clear hx0
                  go_wp2_with fail
                  go_roundg (ek - (q + 1))
                  case measure => omega
                  case rel => exact ⟨q + 1, _, by omega, rfl, rfl, by go_num, rfl, Lib.hid (Hstep.out _ (Cg.of _ _ (by rw [Hx0.out]; simp)))⟩
              · have hqi : ¬ (q : Int) < a1 := by have := Hek.out; omega
                obtain rfl : q = ek := by omega
                go_wp2_with fail
                go_roundg (7 - (1 + 1))
                case measure => omega
                case rel =>
                  refine ⟨1 + 1, C2, by omega, rfl, rfl, by go_num, rfl, Lib.hid ?_⟩
                  refine hC2.out.trans ?_
                  show Cg _ (c * (monoK (pickL ws ys) [a0, a1, a2, a3, a4, a5, a6] 1 * (pickL ws ys).getD 1 0 ^ (a1).toNat))
                  rw [Hxe.out, Hek.out, Int.toNat_natCast, ← Int.mul_assoc]
                  exact hC.out.mul (Cg.refl _)
          · subst h0
            have hidx := idx7_2 a0 a1 a2 a3 a4 a5 a6 U
            obtain ⟨ek, hek⟩ := Int.eq_ofNat_of_zero_le b2.1
            have Hek := Lib.hid hek
            clear hek
            go_wp2_with (first | (refine wpList_index_run _ rfl _ _ _ rfl _ _ _ rfl rfl hidx ?_) | fail)
            clear hidx
            go_loopg [9, 25] ek (fun g s9 s25 wr => ∃ (q : Nat) (C2 : Int), q ≤ ek ∧ g = ek - q ∧ s9 = .int .i64 C2 ∧ s25 = .int .i64 (q : Int) ∧ U = wr ∧ Hid (Cg C2 (C * x ^ q)))
            case atStart => exact ⟨0, C, by omega, rfl, rfl, rfl, rfl, Lib.hid (Cg.of _ _ (by simp))⟩
            case round =>
              obtain ⟨q, C2, hq, rfl, rfl, rfl, rfl, hC2⟩ := hrel
              by_cases hqe : q < ek
              · have hqi : (q : Int) < a2 := by have := Hek.out; omega
                have hstep : ∀ z, Cg z (C2 * x) → Cg z (C * x ^ (q + 1)) := fun z hz => hz.trans (by rw [Int.pow_succ, ← Int.mul_assoc]; exact hC2.out.mul (Cg.refl _))
                have Hstep := Lib.hid hstep
                clear hstep
                by_cases hlw : 2 < ws.length
                · have hlwi : (2 : Int) < (ws.length : Int) := by omega
                  obtain ⟨mm, hmm, hmy⟩ := Hws.out 2 hlw
                  obtain ⟨bw, ow, rfl, hcw⟩ := Hwc.out (by omega)
                  obtain ⟨bY, oy, rfl, hcy⟩ := Hyc.out (by omega)
                  have c1 := cell_below (HB.out ▸ Hbel1.out) (hcw 2 hlw)
                  have c2 := cell_below (HB.out ▸ Hbel1.out) (hcy mm hmy)
                  unfold iv at c1 c2
                  rw [hmm] at c1
                  have hxx : ys.getD mm 0 = x := by rw [Hx.out]; unfold pick; rw [if_pos hlw, hmm]; rfl
                  rw [hxx] at c2
                  have hmi : (mm : Int) < (ys.length : Int) := by omega
                  clear hcw hcy hmm hxx
                  go_wp2_with fail
                  go_roundg (ek - (q + 1))
                  case measure => omega
                  case rel => exact ⟨q + 1, _, by omega, rfl, rfl, by go_num, rfl, Lib.hid (Hstep.out _ (cg_wrap _))⟩
                · have hlwi : ¬ (2 : Int) < (ws.length : Int) := by omega
                  have hx0 : x = 0 := by rw [Hx.out]; unfold pick; rw [if_neg hlw]
                  have Hx0 := Lib.hid hx0
                  clear hx0
                  go_wp2_with fail
                  go_roundg (ek - (q + 1))
                  case measure => omega
                  case rel => exact ⟨q + 1, _, by omega, rfl, rfl, by go_num, rfl, Lib.hid (Hstep.out _ (Cg.of _ _ (by rw [Hx0.out]; simp)))⟩
              · have hqi : ¬ (q : Int) < a2 := by have := Hek.out; omega
                obtain rfl : q = ek := by omega
                go_wp2_with fail
                go_roundg (7 - (2 + 1))
                case measure => omega
                case rel =>
                  refine ⟨2 + 1, C2, by omega, rfl, rfl, by go_num, rfl, Lib.hid ?_⟩
                  refine hC2.out.trans ?_
                  show Cg _ (c * (monoK (pickL ws ys) [a0, a1, a2, a3, a4, a5, a6] 2 * (pickL ws ys).getD 2 0 ^ (a2).toNat))
                  rw [Hxe.out, Hek.out, Int.toNat_natCast, ← Int.mul_assoc]
                  exact hC.out.mul (Cg.refl _)
          · subst h0
            have hidx := idx7_3 a0 a1 a2 a3 a4 a5 a6 U
            obtain ⟨ek, hek⟩ := Int.eq_ofNat_of_zero_le b3.1
            have Hek := Lib.hid hek
            clear hek
            go_wp2_with (first | (refine wpList_index_run _ rfl _ _ _ rfl _ _ _ rfl rfl hidx ?_) | fail)
            clear hidx
            go_loopg [9, 25] ek (fun g s9 s25 wr => ∃ (q : Nat) (C2 : Int), q ≤ ek ∧ g = ek - q ∧ s9 = .int .i64 C2 ∧ s25 = .int .i64 (q : Int) ∧ U = wr ∧ Hid (Cg C2 (C * x ^ q)))
            case atStart => exact ⟨0, C, by omega, rfl, rfl, rfl, rfl, Lib.hid (Cg.of _ _ (by simp))⟩
            case round =>
              obtain ⟨q, C2, hq, rfl, rfl, rfl, rfl, hC2⟩ := hrel
              by_cases hqe : q < ek
              · have hqi : (q : Int) < a3 := by have := Hek.out; omega
                have hstep : ∀ z, Cg z (C2 * x) → Cg z (C * x ^ (q + 1)) := fun z hz => hz.trans (by rw [Int.pow_succ, ← Int.mul_assoc]; exact hC2.out.mul (Cg.refl _))
                have Hstep := Lib.hid hstep
                clear hstep
                by_cases hlw : 3 < ws.length
                · have hlwi : (3 : Int) < (ws.length : Int) := by omega
                  obtain ⟨mm, hmm, hmy⟩ := Hws.out 3 hlw
                  obtain ⟨bw, ow, rfl, hcw⟩ := Hwc.out (by omega)
                  obtain ⟨bY, oy, rfl, hcy⟩ := Hyc.out (by omega)
                  have c1 := cell_below (HB.out ▸ Hbel1.out) (hcw 3 hlw)
                  have c2 := cell_below (HB.out ▸ Hbel1.out) (hcy mm hmy)
                  unfold iv at c1 c2
                  rw [hmm] at c1
                  have hxx : ys.getD mm 0 = x := by rw [Hx.out]; unfold pick; rw [if_pos hlw, hmm]; rfl
                  rw [hxx] at c2
                  have hmi : (mm : Int) < (ys.length : Int) := by omega
                  clear hcw hcy hmm hxx
                  go_wp2_with fail
                  go_roundg (ek - (q + 1))
                  case measure => omega
                  case rel => exact ⟨q + 1, _, by omega, rfl, rfl, by go_num, rfl, Lib.hid (Hstep.out _ (cg_wrap _))⟩
                · have hlwi : ¬ (3 : Int) < (ws.length : Int) := by omega
                  have hx0 : x = 0 := by rw [Hx.out]; unfold pick; rw [if_neg hlw]
                  have Hx0 := Lib.hid hx0
                  clear hx0
                  go_wp2_with fail
                  go_roundg (ek - (q + 1))
                  case measure => omega
                  case rel => exact ⟨q + 1, _, by omega, rfl, rfl, by go_num, rfl, Lib.hid (Hstep.out _ (Cg.of _ _ (by rw [Hx0.out]; simp)))⟩
              · have hqi : ¬ (q : Int) < a3 := by have := Hek.out; omega
                obtain rfl : q = ek := by omega
                go_wp2_with fail
                go_roundg (7 - (3 + 1))
                case measure => omega
                case rel =>
                  refine ⟨3 + 1, C2, by omega, rfl, rfl, by go_num, rfl, Lib.hid ?_⟩
                  refine hC2.out.trans ?_
                  show Cg _ (c * (monoK (pickL ws ys) [a0, a1, a2, a3, a4, a5, a6] 3 * (pickL ws ys).getD 3 0 ^ (a3).toNat))
                  rw [Hxe.out, Hek.out, Int.toNat_natCast, ← Int.mul_assoc]
                  exact hC.out.mul (Cg.refl _)
          · subst h0
            have hidx := idx7_4 a0 a1 a2 a3 a4 a5 a6 U
            obtain ⟨ek, hek⟩ := Int.eq_ofNat_of_zero_le b4.1
            have Hek := Lib.hid hek
            clear hek
            go_wp2_with (first | (refine wpList_index_run _ rfl _ _ _ rfl _ _ _ rfl rfl hidx ?_) | fail)
            clear hidx
            go_loopg [9, 25] ek (fun g s9 s25 wr => ∃ (q : Nat) (C2 : Int), q ≤ ek ∧ g = ek - q ∧ s9 = .int .i64 C2 ∧ s25 = .int .i64 (q : Int) ∧ U = wr ∧ Hid (Cg C2 (C * x ^ q)))
            case atStart => exact ⟨0, C, by omega, rfl, rfl, rfl, rfl, Lib.hid (Cg.of _ _ (by simp))⟩
            case round =>
              obtain ⟨q, C2, hq, rfl, rfl, rfl, rfl, hC2⟩ := hrel
              by_cases hqe : q < ek
              · have hqi : (q : Int) < a4 := by have := Hek.out; omega
                have hstep : ∀ z, Cg z (C2 * x) → Cg z (C * x ^ (q + 1)) := fun z hz => hz.trans (by rw [Int.pow_succ, ← Int.mul_assoc]; exact hC2.out.mul (Cg.refl _))
                have Hstep := Lib.hid hstep
                clear hstep
                by_cases hlw : 4 < ws.length
                · have hlwi : (4 : Int) < (ws.length : Int) := by omega
                  obtain ⟨mm, hmm, hmy⟩ := Hws.out 4 hlw
                  obtain ⟨bw, ow, rfl, hcw⟩ := Hwc.out (by omega)
                  obtain ⟨bY, oy, rfl, hcy⟩ := Hyc.out (by omega)
                  have c1 := cell_below (HB.out ▸ Hbel1.out) (hcw 4 hlw)
                  have c2 := cell_below (HB.out ▸ Hbel1.out) (hcy mm hmy)
                  unfold iv at c1 c2
                  rw [hmm] at c1
                  have hxx : ys.getD mm 0 = x := by rw [Hx.out]; unfold pick; rw [if_pos hlw, hmm]; rfl
                  rw [hxx] at c2
                  have hmi : (mm : Int) < (ys.length : Int) := by omega
                  clear hcw hcy hmm hxx
                  go_wp2_with fail
                  go_roundg (ek - (q + 1))
                  case measure => omega
                  case rel => exact ⟨q + 1, _, by omega, rfl, rfl, by go_num, rfl, Lib.hid (Hstep.out _ (cg_wrap _))⟩
                · have hlwi : ¬ (4 : Int) < (ws.length : Int) := by omega
                  have hx0 : x = 0 := by rw [Hx.out]; unfold pick; rw [if_neg hlw]
                  have Hx0 := Lib.hid hx0
                  clear hx0
                  go_wp2_with fail
                  go_roundg (ek - (q + 1))
                  case measure => omega
                  case rel => exact ⟨q + 1, _, by omega, rfl, rfl, by go_num, rfl, Lib.hid (Hstep.out _ (Cg.of _ _ (by rw [Hx0.out]; simp)))⟩
              · have hqi : ¬ (q : Int) < a4 := by have := Hek.out; omega
                obtain rfl : q = ek := by omega
                go_wp2_with fail
                go_roundg (7 - (4 + 1))
                case measure => omega
                case rel =>
                  refine ⟨4 + 1, C2, by omega, rfl, rfl, by go_num, rfl, Lib.hid ?_⟩
                  refine hC2.out.trans ?_
                  show Cg _ (c * (monoK (pickL ws ys) [a0, a1, a2, a3, a4, a5, a6] 4 * (pickL ws ys).getD 4 0 ^ (a4).toNat))
                  rw [Hxe.out, Hek.out, Int.toNat_natCast, ← Int.mul_assoc]
                  exact hC.out.mul (Cg.refl _)
          · subst h0
            have hidx := idx7_5 a0 a1 a2 a3 a4 a5 a6 U
            obtain ⟨ek, hek⟩ := Int.eq_ofNat_of_zero_le b5.1
            have Hek := Lib.hid hek
            clear hek
            go_wp2_with (first | (refine wpList_index_run _ rfl _ _ _ rfl _ _ _ rfl rfl hidx ?_) | fail)
            clear hidx
            go_loopg [9, 25] ek (fun g s9 s25 wr => ∃ (q : Nat) (C2 : Int), q ≤ ek ∧ g = ek - q ∧ s9 = .int .i64 C2 ∧ s25 = .int .i64 (q : Int) ∧ U = wr ∧ Hid (Cg C2 (C * x ^ q)))
            case atStart => exact ⟨0, C, by omega, rfl, rfl, rfl, rfl, Lib.hid (Cg.of _ _ (by simp))⟩
            case round =>
              obtain ⟨q, C2, hq, rfl, rfl, rfl, rfl, hC2⟩ := hrel
              by_cases hqe : q < ek
              · have hqi : (q : Int) < a5 := by have := Hek.out; omega
                have hstep : ∀ z, Cg z (C2 * x) → Cg z (C * x ^ (q + 1)) := fun z hz => hz.trans (by rw [Int.pow_succ, ← Int.mul_assoc]; exact hC2.out.mul (Cg.refl _))
                have Hstep := Lib.hid hstep
                clear hstep
                by_cases hlw : 5 < ws.length
                · have hlwi : (5 : Int) < (ws.length : Int) := by omega
                  obtain ⟨mm, hmm, hmy⟩ := Hws.out 5 hlw
                  obtain ⟨bw, ow, rfl, hcw⟩ := Hwc.out (by omega)
                  obtain ⟨bY, oy, rfl, hcy⟩ := Hyc.out (by omega)
                  have c1 := cell_below (HB.out ▸ Hbel1.out) (hcw 5 hlw)
                  have c2 := cell_below (HB.out ▸ Hbel1.out) (hcy mm hmy)
                  unfold iv at c1 c2
                  rw [hmm] at c1
                  have hxx : ys.getD mm 0 = x := by rw [Hx.out]; unfold pick; rw [if_pos hlw, hmm]; rfl
                  rw [hxx] at c2
                  have hmi : (mm : Int) < (ys.length : Int) := by omega
                  clear hcw hcy hmm hxx
                  go_wp2_with fail
                  go_roundg (ek - (q + 1))
                  case measure => omega
                  case rel => exact ⟨q + 1, _, by omega, rfl, rfl, by go_num, rfl, Lib.hid (Hstep.out _ (cg_wrap _))⟩
                · have hlwi : ¬ (5 : Int) < (ws.length : Int) := by omega
                  have hx0 : x = 0 := by rw [Hx.out]; unfold pick; rw [if_neg hlw]
                  have Hx0 := Lib.hid hx0
                  clear hx0
                  go_wp2_with fail
                  go_roundg (ek - (q + 1))
                  case measure => omega
                  case rel => exact ⟨q + 1, _, by omega, rfl, rfl, by go_num, rfl, Lib.hid (Hstep.out _ (Cg.of _ _ (by rw [Hx0.out]; simp)))⟩
              · have hqi : ¬ (q : Int) < a5 := by have := Hek.out; omega
                obtain rfl : q = ek := by omega
                go_wp2_with fail
                go_roundg (7 - (5 + 1))
                case measure => omega
                case rel =>
                  refine ⟨5 + 1, C2, by omega, rfl, rfl, by go_num, rfl, Lib.hid ?_⟩
                  refine hC2.out.trans ?_
                  show Cg _ (c * (monoK (pickL ws ys) [a0, a1, a2, a3, a4, a5, a6] 5 * (pickL ws ys).getD 5 0 ^ (a5).toNat))
                  rw [Hxe.out, Hek.out, Int.toNat_natCast, ← Int.mul_assoc]
                  exact hC.out.mul (Cg.refl _)
          · subst h0
            have hidx := idx7_6 a0 a1 a2 a3 a4 a5 a6 U
            obtain ⟨ek, hek⟩ := Int.eq_ofNat_of_zero_le b6.1
            have Hek := Lib.hid hek
            clear hek
            go_wp2_with (first | (refine wpList_index_run _ rfl _ _ _ rfl _ _ _ rfl rfl hidx ?_) | fail)
            clear hidx
            go_loopg [9, 25] ek (fun g s9 s25 wr => ∃ (q : Nat) (C2 : Int), q ≤ ek ∧ g = ek - q ∧ s9 = .int .i64 C2 ∧ s25 = .int .i64 (q : Int) ∧ U = wr ∧ Hid (Cg C2 (C * x ^ q)))
            case atStart => exact ⟨0, C, by omega, rfl, rfl, rfl, rfl, Lib.hid (Cg.of _ _ (by simp))⟩
            case round =>
              obtain ⟨q, C2, hq, rfl, rfl, rfl, rfl, hC2⟩ := hrel
              by_cases hqe : q < ek
              · have hqi : (q : Int) < a6 := by have := Hek.out; omega
                have hstep : ∀ z, Cg z (C2 * x) → Cg z (C * x ^ (q + 1)) := fun z hz => hz.trans (by rw [Int.pow_succ, ← Int.mul_assoc]; exact hC2.out.mul (Cg.refl _))
                have Hstep := Lib.hid hstep
                clear hstep
                by_cases hlw : 6 < ws.length
                · have hlwi : (6 : Int) < (ws.length : Int) := by omega
                  obtain ⟨mm, hmm, hmy⟩ := Hws.out 6 hlw
                  obtain ⟨bw, ow, rfl, hcw⟩ := Hwc.out (by omega)
                  obtain ⟨bY, oy, rfl, hcy⟩ := Hyc.out (by omega)
                  have c1 := cell_below (HB.out ▸ Hbel1.out) (hcw 6 hlw)
                  have c2 := cell_below (HB.out ▸ Hbel1.out) (hcy mm hmy)
                  unfold iv at c1 c2
                  rw [hmm] at c1
                  have hxx : ys.getD mm 0 = x := by rw [Hx.out]; unfold pick; rw [if_pos hlw, hmm]; rfl
                  rw [hxx] at c2
                  have hmi : (mm : Int) < (ys.length : Int) := by omega
                  clear hcw hcy hmm hxx
                  go_wp2_with fail
                  go_roundg (ek - (q + 1))
                  case measure => omega
                  case rel => exact ⟨q + 1, _, by omega, rfl, rfl, by go_num, rfl, Lib.hid (Hstep.out _ (cg_wrap _))⟩
                · have hlwi : ¬ (6 : Int) < (ws.length : Int) := by omega
                  have hx0 : x = 0 := by rw [Hx.out]; unfold pick; rw [if_neg hlw]
                  have Hx0 := Lib.hid hx0
                  clear hx0
                  go_wp2_with fail
                  go_roundg (ek - (q + 1))
                  case measure => omega
                  case rel => exact ⟨q + 1, _, by omega, rfl, rfl, by go_num, rfl, Lib.hid (Hstep.out _ (Cg.of _ _ (by rw [Hx0.out]; simp)))⟩
              · have hqi : ¬ (q : Int) < a6 := by have := Hek.out; omega
                obtain rfl : q = ek := by omega
                go_wp2_with fail
                go_roundg (7 - (6 + 1))
                case measure => omega
                case rel =>
                  refine ⟨6 + 1, C2, by omega, rfl, rfl, by go_num, rfl, Lib.hid ?_⟩
                  refine hC2.out.trans ?_
                  show Cg _ (c * (monoK (pickL ws ys) [a0, a1, a2, a3, a4, a5, a6] 6 * (pickL ws ys).getD 6 0 ^ (a6).toNat))
                  rw [Hxe.out, Hek.out, Int.toNat_natCast, ← Int.mul_assoc]
                  exact hC.out.mul (Cg.refl _)
        · have ht7i : ¬ (t : Int) < 7 := by omega
          obtain rfl : t = 7 := by omega
          go_wp2_with fail
          go_roundg cnt1
          case measure => exact hlt
          case rel =>
            refine ⟨_, _, rfl, hrgU, has_sub hleft, Lib.hid (wrap_in _), Lib.hid (hgv.out.step HF2.out.tidy HK.out (by omega) hlx Hat.out ?_), Hbel1⟩
            rw [Hm.out]
            exact (cg_wrap _).trans ((Cg.refl _).add hC.out)

end Go.Proofs.YtlbflckoodjokaaGreat

namespace Go.Proofs.YtlbflckoodjokaaGreat
set_option linter.all false
open Go.RowKit

def fact : Nat → Nat
  | 0 => 1
  | n + 1 => (n + 1) * fact n
theorem fact_pos (n : Nat) : 1 ≤ fact n := by
  induction n with
  | zero => exact Nat.le_refl _
  | succ n ih => exact Nat.le_trans ih (Nat.le_mul_of_pos_left _ (Nat.succ_pos n))
theorem fact_le {a b : Nat} (h : a ≤ b) : fact a ≤ fact b := by
  induction h with
  | refl => exact Nat.le_refl _
  | step _ ih => exact Nat.le_trans ih (Nat.le_mul_of_pos_left _ (Nat.succ_pos _))

set_option maxRecDepth 100000 in
set_option maxHeartbeats 1000000 in
theorem specFactorial_any (n : Nat) (hn : n ≤ 12) (w : World) :
    Calls Tryz.prog 63 #[.int .i64 n] w fun e w' => e = .returned (.int .i64 (fact n)) ∧ Qt w w' := by
  have hfn : fact n ≤ fact 12 := fact_le hn
  have h12 : fact 12 = 479001600 := by decide
  go_enter Tryz.func63, Tryz.ntmps63
  go_wp2
  go_loopg [3, 4] n (fun g s3 i wr => ∃ k : Nat, (k = 0 ∨ k + 1 ≤ n) ∧ g = n - k ∧ i = .int .i64 (k + 2 : Nat) ∧ s3 = .int .i64 (fact (k + 1)) ∧ Qt w wr)
  case atStart => exact ⟨0, .inl rfl, rfl, rfl, rfl, Qt.refl _⟩
  case round =>
    obtain ⟨k, hk, rfl, rfl, rfl, hq⟩ := hrel
    by_cases hlt : k + 2 ≤ n
    · have hb : fact (k + 2) ≤ fact 12 := fact_le (by omega)
      have he : (fact (k + 2) : Int) = (fact (k + 1) : Int) * ((k + 2 : Nat) : Int) := by
        rw [show fact (k + 2) = (k + 2) * fact (k + 1) from rfl, Nat.mul_comm]; push_cast; rfl
      generalize hF : (fact (k + 1) : Int) = F at he
      generalize hI : ((k + 2 : Nat) : Int) = I at he
      have hm1 : 0 ≤ F * I := by omega
      have hm2 : F * I ≤ 479001600 := by omega
      have hI2 : I = (k : Int) + 2 := by omega
      have He := Lib.hid he
      have HF := Lib.hid hF
      clear hb he hF hI hfn h12
      go_wp2
      go_roundg (n - (k + 1))
      case measure => omega
      case rel => exact ⟨k + 1, .inr (by omega), rfl, by go_num, by rw [show k + 1 + 1 = k + 2 from rfl, He.out, ← hI2, w64 (by omega) (by omega)], hq⟩
    · go_wp2
      go_ret
      refine ⟨ret_int ?_, hq⟩
      rcases hk with rfl | hk
      · have : n = 0 ∨ n = 1 := by omega
        rcases this with rfl | rfl <;> rfl
      · rw [show k + 1 = n by omega]

/-- the left-th number that is not in out is put behind it -/
def decGo (out : List Int) : Nat → Nat → Nat → List Int
  | 0, _, _ => out
  | f + 1, v, left => if (v : Int) ∈ out then decGo out f (v + 1) left else if left = 0 then out ++ [(v : Int)] else decGo out f (v + 1) (left - 1)
def decL (n : Nat) (c : List Nat) : List Int := c.foldl (fun out left => decGo out n 0 left) []
theorem decL_snoc (n : Nat) (c : List Nat) (x : Nat) : decL n (c ++ [x]) = decGo (decL n c) n 0 x := by simp [decL]

theorem decGo_len (out : List Int) (f v left : Nat) : (decGo out f v left).length ≤ out.length + 1 := by
  induction f generalizing v left with
  | zero => simp [decGo]
  | succ f ih =>
    unfold decGo
    split
    · exact ih _ _
    · split
      · simp
      · exact ih _ _
theorem decL_len (n : Nat) (c : List Nat) (k : Nat) : (decL n (c.take k)).length ≤ k := by
  induction k with
  | zero => simp [decL]
  | succ k ih =>
    by_cases h : k < c.length
    · have e : c.take (k + 1) = c.take k ++ [c[k]] := by rw [List.take_add_one, List.getElem?_eq_getElem h]; rfl
      rw [e, decL_snoc]
      exact Nat.le_trans (decGo_len _ _ _ _) (by omega)
    · rw [List.take_of_length_le (by omega)]
      rw [List.take_of_length_le (by omega)] at ih
      omega

set_option maxRecDepth 100000 in
set_option maxHeartbeats 2000000 in
theorem specDecode_any (v : Value) (c : List Nat) (w : World) (h : Ints w v (c.map Int.ofNat)) (hn : c.length ≤ 100) (hs : ∀ x ∈ c, x ≤ 1000000) :
    Calls Tryz.prog 64 #[v] w (RetI w (decL c.length c)) := by
  obtain ⟨p, cap, rfl, ⟨hx1, hx⟩, hxc⟩ := h
  rw [List.length_map] at *
  unfold maxLen at hx
  have Hxc := Lib.hid hxc
  have Hs := Lib.hid hs
  clear hxc hs
  go_enter Tryz.func64, Tryz.ntmps64
  go_wp2
  go_loopg [3, 4] c.length (fun g s3 i wr => ∃ k : Nat, k ≤ c.length ∧ g = c.length - k ∧ i = .int .i64 k ∧ Below w.heap.size w wr ∧ OwnI 3 wr w.heap.size wr.heap.size s3 (decL c.length (c.take k)))
  case atStart => exact ⟨0, Nat.zero_le _, rfl, rfl, below_alloc _ _, (OwnF.ints (xs := []) ((OwnF.made0 w _ _))).mono (Nat.le_refl _) (by simp)⟩
  case round =>
    obtain ⟨k, hk, rfl, rfl, hb, ho⟩ := hrel
    by_cases hlt : k < c.length
    · obtain ⟨b, off, rfl, hc⟩ := Hxc.out (by omega)
      have c1 := cell_below hb (hc k hlt)
      have e1 : iv (c.map Int.ofNat) k = .int .i64 (c.getD k 0 : Nat) := by simp [iv, List.getD_eq_getElem?_getD, hlt]
      rw [e1] at c1
      have hck : c.getD k 0 ≤ 1000000 := Hs.out _ (by simp [List.getD_eq_getElem?_getD, hlt])
      have e2 : decL c.length (c.take (k + 1)) = decGo (decL c.length (c.take k)) c.length 0 (c.getD k 0) := by
        rw [List.take_add_one, List.getElem?_eq_getElem hlt]
        simp only [Option.toList]
        rw [decL_snoc]
        simp [List.getD_eq_getElem?_getD, hlt]
      have hln := decL_len c.length c k
      generalize hX : c.getD k 0 = X at c1 hck e2
      generalize hO : decL c.length (c.take k) = out at ho e2 hln
      have E2 := Lib.hid e2
      have Ho := Lib.hid ho
      obtain ⟨p3, k3, rfl, _, _⟩ := ho.shape
      clear hc e1 e2 hX hO ho
      obtain ⟨wo, rfl⟩ : ∃ x : World, x = wr := ⟨_, rfl⟩
      go_wp2
      go_loopg [3, 5, 6] c.length (fun g s3 s5 s6 wr => ∃ left v : Nat, v ≤ c.length ∧ left ≤ 1000000 ∧ g = c.length - v ∧ s3 = .slice p3 out.length k3 ∧ s5 = .int .i64 left ∧ s6 = .int .i64 v ∧ Qt wo wr ∧ Hid (decGo out (c.length - v) v left = decGo out c.length 0 X))
      case atStart => exact ⟨X, 0, Nat.zero_le _, hck, rfl, rfl, rfl, rfl, Qt.refl _, rfl⟩
      case round =>
        obtain ⟨left, v, hv, hleft, rfl, rfl, rfl, rfl, hq, hg⟩ := hrel
        by_cases hvlt : v < c.length
        · by_cases hmem : (v : Int) ∈ out
          · have hc := l1Has_any _ out v wr (Ho.out.ints.qt hq)
            rw [decide_eq_true hmem] at hc
            have Hc := Lib.hid hc
            have hg2 : decGo out (c.length - (v + 1)) (v + 1) left = decGo out c.length 0 X := by
              rw [← hg.out, show c.length - v = (c.length - (v + 1)) + 1 by omega]
              simp [decGo, hmem]
            have Hg2 := Lib.hid hg2
            clear hc hg hg2 hmem
            go_wp2_with fail
            refine Hc.out.mono ?_
            rintro e w1 ⟨rfl, hq1⟩
            go_wp2_with fail
            go_roundg (c.length - (v + 1))
            case measure => omega
            case rel => exact ⟨left, v + 1, by omega, hleft, rfl, rfl, rfl, by go_num, hq.trans hq1, Hg2.out⟩
          · have hc := l1Has_any _ out v wr (Ho.out.ints.qt hq)
            rw [decide_eq_false hmem] at hc
            have Hc := Lib.hid hc
            by_cases hl0 : left = 0
            · subst hl0
              have hg2 : out ++ [(v : Int)] = decGo out c.length 0 X := by
                rw [← hg.out, show c.length - v = (c.length - (v + 1)) + 1 by omega]
                simp [decGo, hmem]
              have Hg2 := Lib.hid hg2
              clear hc hg hg2 hmem
              go_wp2_with fail
              refine Hc.out.mono ?_
              rintro e w1 ⟨rfl, hq1⟩
              have Hq1 := Lib.hid (hq.trans hq1)
              have Ho1 := Lib.hid (Ho.out.below (Hq1.out.below _))
              have Hb1 := Lib.hid (show out.length + 1 ≤ maxLen by unfold maxLen; omega)
              have Hb2 := Lib.hid (show (out.length + 1) * 8 ≤ 140737488355328 by omega)
              have Hsz : Hid (w1.heap.size = wo.heap.size) := by unfold Hid; rw [Hq1.out.size]
              have hsw := hb.size
              go_wp2_with (at_builtin; go_must (refine wpList_append_F rfl (.tmp 29) (.tmp 31) 22 rfl 3 (.int .i64 0) 8 Tryz.underlying22 info_int rfl w.heap.size wo.heap.size _ out.length (iv out) rfl ((Ho1.out.below (below_alloc _ _)).fn) (by have := Hsz.out; simp; omega) (by have := Hsz.out; simp; omega) _ _ _ rfl (rd_one _ _ _ rfl) (fun j _ => rfl) Hb1.out Hb2.out ?_; intro v' w' ho' hg'))
              have hsw' := hg'.size
              simp only [size_alloc] at hsw'
              have hsz := Hsz.out
              have hblow : Below w.heap.size wo w' := (Hq1.out.below _).trans (((below_alloc w1 _).mono (by omega)).trans (grownBy_below hg' Ho1.out.fn.blocks (Nat.le_refl _) (by simp; omega)))
              go_roundg (c.length - (k + 1))
              case measure => omega
              case rel =>
                refine ⟨k + 1, by omega, rfl, by go_num, hb.trans hblow, ?_⟩
                rw [E2.out, ← Hg2.out]
                refine OwnF.ints ?_
                rw [List.length_append]
                exact ho'.congr fun j hj => by
                  by_cases h : j < out.length
                  · simp [h, iv, List.getD_eq_getElem?_getD, List.getElem?_append_left h]
                  · have : j = out.length := by omega
                    subst this
                    simp [iv, List.getD_eq_getElem?_getD]
            · have hg2 : decGo out (c.length - (v + 1)) (v + 1) (left - 1) = decGo out c.length 0 X := by
                rw [← hg.out, show c.length - v = (c.length - (v + 1)) + 1 by omega]
                simp [decGo, hmem, hl0]
              have Hg2 := Lib.hid hg2
              clear hc hg hg2 hmem
              go_wp2_with fail
              refine Hc.out.mono ?_
              rintro e w1 ⟨rfl, hq1⟩
              go_wp2_with fail
              go_roundg (c.length - (v + 1))
              case measure => omega
              case rel => exact ⟨left - 1, v + 1, by omega, by omega, rfl, rfl, by go_num, by go_num, hq.trans hq1, Hg2.out⟩
        · have hv2 : v = c.length := by omega
          subst hv2
          have hg2 : out = decGo out c.length 0 X := by
            rw [← hg.out, Nat.sub_self]; rfl
          have Hg2 := Lib.hid hg2
          clear hg hg2
          go_wp2_with fail
          go_roundg (c.length - (k + 1))
          case measure => omega
          case rel =>
            refine ⟨k + 1, by omega, rfl, by go_num, hb.trans (hq.below _), ?_⟩
            rw [E2.out, ← Hg2.out, hq.size]
            exact Ho.out.below (hq.below _)
    · go_wp2
      go_ret
      obtain rfl : k = c.length := by omega
      rw [List.take_length] at ho
      exact ⟨_, rfl, ho, hb⟩

end Go.Proofs.YtlbflckoodjokaaGreat

namespace Go.Proofs.YtlbflckoodjokaaGreat
set_option linter.all false
open Go.RowKit

/-- x divided by 1, 2, .., j -/
def restAt (x : Nat) : Nat → Nat
  | 0 => x
  | j + 1 => restAt x j / (j + 1)
def digits (n x : Nat) : List Nat := (List.range n).map fun i => restAt x (n - 1 - i) % (n - i)
def permsL (n : Nat) : List (List Int) := (List.range (fact n)).map fun x => decL n (digits n x)
theorem restAt_le (x j : Nat) : restAt x j ≤ x := by
  induction j with
  | zero => exact Nat.le_refl _
  | succ j ih => exact Nat.le_trans (Nat.div_le_self _ _) ih
theorem digits_getD {n x t : Nat} (h : t < n) : (digits n x).getD t 0 = restAt x (n - 1 - t) % (n - t) := by simp [digits, List.getD_eq_getElem?_getD, h]
theorem digits_le (n x : Nat) : ∀ c ∈ digits n x, c ≤ x := by
  intro c hc
  simp only [digits, List.mem_map, List.mem_range] at hc
  obtain ⟨i, _, rfl⟩ := hc
  exact Nat.le_trans (Nat.mod_le _ _) (restAt_le _ _)
theorem permsL_take {n x : Nat} (h : x < fact n) : (permsL n).take (x + 1) = (permsL n).take x ++ [decL n (digits n x)] := by
  rw [List.take_add_one]
  congr 1
  simp [permsL, h]
theorem digits_length (n x : Nat) : (digits n x).length = n := by simp [digits]

set_option maxRecDepth 100000 in
set_option maxHeartbeats 2000000 in
theorem specPerms_any (n : Nat) (hn1 : 1 ≤ n) (hn : n ≤ 5) (w : World) :
    Calls Tryz.prog 48 #[.int .i64 n] w (RetII w (permsL n)) := by
  have hfn : fact n ≤ 120 := Nat.le_trans (fact_le hn) (by decide)
  have hmk := run_make_row' (P := Tryz.prog) 22 3 (.int .i64 0) 8 Tryz.underlying22 info_int rfl .i64 .i64 n (by omega) (by omega)
  have Hfn := Lib.hid hfn
  have Hmk := Lib.hid hmk
  clear hmk
  go_enter Tryz.func48, Tryz.ntmps48
  go_wp2
  go_loopg [3, 4] (fact n) (fun g s3 i wr => ∃ (x : Nat) (rows : List (List Int)), x ≤ fact n ∧ g = fact n - x ∧ i = .int .i64 x ∧ Below w.heap.size w wr ∧ Hid (rows = (permsL n).take x) ∧ Hid (OwnII 22 3 wr w.heap.size wr.heap.size s3 rows))
  case atStart =>
    refine ⟨0, [], Nat.zero_le _, rfl, rfl, below_alloc _ _, rfl, ?_⟩
    exact ⟨fun _ => undef, ((OwnF.made0 w _ _)).mono (Nat.le_refl _) (by simp), fun i hi => absurd hi (by simp), fun i j _ hj => absurd hj (by simp)⟩
  case round =>
    obtain ⟨x, rows, hx, rfl, rfl, hb, hr, ho⟩ := hrel
    have hlen : rows.length = x := by rw [hr.out, List.length_take]; simp [permsL]; omega
    obtain ⟨wo, rfl⟩ : ∃ x : World, x = wr := ⟨_, rfl⟩
    obtain ⟨p3, k3, rfl, _, _⟩ := ho.out.shape
    have Hlen := Lib.hid hlen
    clear hlen
    by_cases hlt : x < fact n
    · go_wp2_with fail
      refine (specFactorial_any n (by omega) _).mono ?_
      rintro e w1 ⟨rfl, hq⟩
      have Hq := Lib.hid hq
      clear hq
      have hmk := Hmk.out
      go_wp2
      clear hmk
      obtain ⟨wq, rfl⟩ : ∃ x : World, x = w1 := ⟨_, rfl⟩
      go_loopg [6, 7] n (fun g s6 s7 wr => ∃ j : Nat, j ≤ n ∧ g = n - j ∧ s6 = .int .i64 (restAt x j) ∧ s7 = .int .i64 ((n : Int) - 1 - j) ∧ Below wq.heap.size wq wr ∧ wr.heap.size = wq.heap.size + 1 ∧
        Hid (wr.rowIs wq.heap.size 3 n (fun t => .int .i64 (if n - j ≤ t then ((digits n x).getD t 0 : Nat) else 0))))
      case atStart => exact ⟨0, Nat.zero_le _, rfl, rfl, by simp, below_alloc _ _, by simp, (World.rowIs_made wq (.int .i64 0) n 3).congr fun t ht => by simp [show ¬ n ≤ t by omega]⟩
      case round =>
        obtain ⟨j, hj, rfl, rfl, rfl, hb2, hsz, hrow⟩ := hrel
        by_cases hjlt : j < n
        · obtain ⟨I, hI⟩ : ∃ I : Nat, (n : Int) - 1 - j = I := ⟨n - 1 - j, by omega⟩
          have hIn : I < n := by omega
          rw [hI]
          obtain ⟨J, hJ⟩ : ∃ J : Int, J = (n : Int) - I := ⟨_, rfl⟩
          have hJ1 : 1 ≤ J := by omega
          have hJ2 : J ≤ 5 := by omega
          have hR := restAt_le x j
          generalize hRR : restAt x j = R at hR
          have HRR := Lib.hid hRR
          have HI := Lib.hid hI
          have hfz := hrow.out.frozen I
          have hcl := hrow.out.cell hIn
          clear hRR hI
          go_wp2
          go_roundg (n - (j + 1))
          case measure => omega
          case rel =>
            have hi := HI.out
            have eJ : ((n : Int) - I) = ((j + 1 : Nat) : Int) := by omega
            have hI3 : n - I = j + 1 := by omega
            have hI4 : n - 1 - I = j := by omega
            refine ⟨j + 1, by omega, rfl, ?_, ?_, hb2.setCell (Nat.le_refl _) _, by rw [size_setCell]; exact hsz, (hrow.out.set I _).congr fun t ht => ?_⟩
            · rw [eJ, ← Int.natCast_ediv, show restAt x (j + 1) = R / (j + 1) by rw [← HRR.out]; rfl]
              have hq := Nat.div_le_self R (j + 1)
              have := Hfn.out
              generalize R / (j + 1) = Q at hq ⊢
              rw [w64 (by omega) (by omega)]
            · go_num
            · by_cases e : t = I
              · subst e
                rw [if_pos rfl, if_pos (by omega), digits_getD hIn, hI4, hI3, HRR.out, eJ, ← Int.natCast_emod]
              · simp only [e, if_false]
                by_cases h2 : n - j ≤ t
                · rw [if_pos h2, if_pos (by omega)]
                · rw [if_neg h2, if_neg (by omega)]
        · have hj2 : j = n := by omega
          rw [hj2] at hrow
          have hI : Hid (Ints wr (.slice (some ⟨wq.heap.size, 0, none⟩) n n) ((digits n x).map Int.ofNat)) := by
            refine ⟨some ⟨wq.heap.size, 0, none⟩, n, by simp [digits_length], ⟨by simp [digits_length], by unfold maxLen; omega⟩, fun _ => ⟨_, 0, rfl, fun t ht => ?_⟩⟩
            rw [List.length_map, digits_length] at ht
            rw [Nat.zero_add, hrow.out.cell ht, if_pos (by omega)]
            simp [iv, List.getD_eq_getElem?_getD, digits_length, ht]
          have hbw : Below wo.heap.size wo wr := (Hq.out.below _).trans (by have := Hq.out.size; rw [← this]; exact hb2)
          have Hbw := Lib.hid hbw
          have Hszq := Lib.hid Hq.out.size
          have hx120 := Hfn.out
          have Hdl := Lib.hid (digits_le n x)
          clear hrow hb2 hbw hsz hj2
          go_wp2_with fail
          refine (specDecode_any _ (digits n x) _ hI.out (by rw [digits_length]; omega) (fun c hc => by have := Hdl.out c hc; omega)).mono ?_
          rintro e w5 ⟨u5, rfl, ho5, hb5⟩
          rw [digits_length] at ho5
          obtain ⟨p5, k5, rfl, _, _⟩ := ho5.shape
          obtain ⟨f, g1, g2, g3⟩ := ho.out
          have hbx : Below wo.heap.size wo w5 := Hbw.out.trans (hb5.mono Hbw.out.size)
          have Hbx := Lib.hid hbx
          have G1 := Lib.hid (g1.below hbx)
          have G2 := Lib.hid (fun i hi => (g2 i hi).below hbx)
          have G3 := Lib.hid g3
          have H5 := Lib.hid (ho5.mono Hbw.out.size (Nat.le_refl _))
          have hlx := Hlen.out
          have Hb1 := Lib.hid (show rows.length + 1 ≤ maxLen by unfold maxLen; omega)
          have Hb2 := Lib.hid (show (rows.length + 1) * 24 ≤ 140737488355328 by omega)
          have hs1 := hb.size
          have hs5 := hbx.size
          have hnew := permsL_take hlt
          rw [← hr.out] at hnew
          have Hnew := Lib.hid hnew
          clear hnew
          generalize decL n (digits n x) = new at *
          clear g1 g2 g3 ho5 hbx hb5 hlx
          go_wp2_with (at_builtin; go_must (refine wpList_append_F rfl (.tmp 37) (.tmp 40) 42 rfl 22 (.slice none 0 0) 24 Tryz.underlying42 info_sl rfl w.heap.size wo.heap.size _ rows.length f rfl (G1.out.below (below_alloc _ _)) (by simp; omega) (by simp; omega) _ _ _ rfl (rd_one _ _ _ rfl) (fun j _ => rfl) Hb1.out Hb2.out ?_; intro v' w' ho' hg'))
          have hsw' := hg'.size
          simp only [size_alloc] at hsw'
          have hblow : Below w.heap.size wo w' := (Hbx.out.mono hs1).trans (((below_alloc w5 _).mono (by omega)).trans (grownBy_below hg' G1.out.blocks (Nat.le_refl _) (by simp; omega)))
          go_roundg (fact n - (x + 1))
          case measure => omega
          case rel =>
            refine ⟨x + 1, rows ++ [new], by omega, rfl, by go_num, hb.trans hblow, ?_, ?_⟩
            · exact Hnew.out.symm
            · exact OwnII.snoc (G1.out.below (below_alloc _ _)) (fun i hi => (G2.out i hi).below (below_alloc _ _)) G3.out (H5.out.below (below_alloc _ _)) hs1 hs5 (by decide) hg' (by omega) ho'
    · go_wp2_with fail
      refine (specFactorial_any n (by omega) _).mono ?_
      rintro e w1 ⟨rfl, hq⟩
      have Hq := Lib.hid hq
      clear hq
      go_wp2_with fail
      go_ret
      obtain rfl : x = fact n := by omega
      refine ⟨_, rfl, ?_, hb.trans (Hq.out.below _)⟩
      have e : rows = permsL n := by rw [hr.out, List.take_of_length_le (by simp [permsL])]
      rw [← e, Hq.out.size]
      exact ho.out.below (Hq.out.below _)

theorem ownII_nil (w : World) (lo hi : Nat) : OwnII 22 3 w lo hi (.slice none 0 0) [] :=
  ⟨fun _ => undef, OwnF.nil _ _ _ _ _, fun i hi => absurd hi (Nat.not_lt_zero _), fun i j _ hj => absurd hj (Nat.not_lt_zero _)⟩
def allPermsL (N : Int) : List (List Int) := if 1 ≤ N ∧ N ≤ 5 then permsL N.toNat else []

end Go.Proofs.YtlbflckoodjokaaGreat

namespace Go.Proofs.YtlbflckoodjokaaGreat
set_option linter.all false
open Go.RowKit

/-- all lists of numbers below n that are chosen without repeating, behind those that are chosen -/
def allL (n : Nat) : Nat → List Int → List (List Int)
  | 0, ch => [ch]
  | f + 1, ch => (List.range n).flatMap fun (x : Nat) => if (x : Int) ∈ ch then [] else allL n f (ch ++ [(x : Int)])

theorem allL_len (n : Nat) : ∀ f ch, (allL n f ch).length ≤ n ^ f
  | 0, ch => by simp [allL]
  | f + 1, ch => by
    rw [allL, Nat.pow_succ, Nat.mul_comm]
    refine flatMap_len _ _ (fun x => ?_) n
    split
    · simp
    · exact allL_len n f _

set_option maxRecDepth 100000 in
theorem allL_perms (n : Nat) (h1 : 1 ≤ n) (h5 : n ≤ 5) : allL n n [] = permsL n := by
  have : n = 1 ∨ n = 2 ∨ n = 3 ∨ n = 4 ∨ n = 5 := by omega
  rcases this with rfl | rfl | rfl | rfl | rfl <;> decide +kernel

end Go.Proofs.YtlbflckoodjokaaGreat
