/-
  The law FnExactAllPerms, walked call by call: it returns true, and nothing that was there has changed.
-/
import Derived.Test.YtebfnjffjedmgaaPermsI
import Derived.Test.YtebfnjffjedmgaaLawII
namespace Go.Proofs.Ytebfnjffjedmgaa
set_option linter.all false
open Go.RowKit

set_option maxRecDepth 100000 in
theorem perms_len (N : Int) : (allPermsL N).flatten.length ≤ 1000 := by
  by_cases h : 1 ≤ N ∧ N ≤ 5
  · have e : allPermsL N = permsL N.toNat := by simp [allPermsL, h]
    rw [e]
    have : N = 1 ∨ N = 2 ∨ N = 3 ∨ N = 4 ∨ N = 5 := by omega
    rcases this with rfl | rfl | rfl | rfl | rfl <;> decide +kernel
  · have e : allPermsL N = [] := by simp [allPermsL, h]
    rw [e]; simp

set_option maxRecDepth 100000 in
set_option maxHeartbeats 8000000 in
theorem lawAllPerms (N : Int) (w0 : World) :
    Calls Try.prog 4 #[.int .i64 N] w0 fun e w' => e = .returned (.bool true) ∧ Below w0.heap.size w0 w' := by
  have hlen := perms_len N
  have S := fun w => specAllPerms_any N w
  have I := fun w => implAllPerms_any N w
  generalize allPermsL N = rows at hlen S I
  have S := Lib.hid S
  have I := Lib.hid I
  go_enter Try.func4, Try.ntmps4
  go_wp2_with fail
  refine (S.out _).mono ?_
  rintro e w1 ⟨u1, rfl, ho1, B1⟩
  obtain ⟨p1, k1, rfl, _, _⟩ := ho1.shape
  have z1 := B1.size
  have H1 := Lib.hid ho1
  clear ho1
  go_wp2_with fail
  refine (I.out _).mono ?_
  rintro e w2 ⟨u2, rfl, ho2, bl2⟩
  obtain ⟨p2, k2, rfl, _, _⟩ := ho2.shape
  have z2 := bl2.size
  have B2 := B1.trans (bl2.mono z1)
  have H1_2 := Lib.hid (H1.out.below bl2)
  have H2 := Lib.hid ho2
  clear H1 ho2 bl2 B1
  go_wp2_with fail
  refine (eqIntSS_same _ _ rows _ H2.out.rd H1_2.out.rd).mono ?_
  rintro e w3 ⟨rfl, bl3⟩
  have z3 := bl3.size
  have H1_3 := Lib.hid (H1_2.out.below bl3)
  have H2_3 := Lib.hid (H2.out.below bl3)
  have B3 := B2.trans (bl3.mono (by omega))
  clear bl3 H1_2 H2 B2
  go_wp2_with fail
  refine (markIntSS_any _ rows _ _ 1 _ H2_3.out (by omega) (by omega)).mono ?_
  rintro e w4 ⟨rfl, ho4, hf4⟩
  have s4 := hf4.size
  have H1_4 := Lib.hid (H1_3.out.frm hf4 (.inl (Nat.le_refl _)))
  have H2_4 := Lib.hid ho4
  have B4 := B3.trans (hf4.below (by omega) (by omega))
  clear hf4 ho4 H1_3 H2_3 B3
  go_wp2_with fail
  refine (heldIntSS_runs _ rows 1 _ H2_4.out.rd (by omega) (by omega)).mono ?_
  rintro e w5 ⟨rfl, bl5⟩
  have z5 := bl5.size
  have H1_5 := Lib.hid (H1_4.out.below bl5)
  have H2_5 := Lib.hid (H2_4.out.below bl5)
  have B5 := B4.trans (bl5.mono (by omega))
  clear bl5 H1_4 H2_4 B4
  go_wp2_with fail
  refine (I.out _).mono ?_
  rintro e w6 ⟨u6, rfl, ho6, bl6⟩
  obtain ⟨p6, k6, rfl, _, _⟩ := ho6.shape
  have z6 := bl6.size
  have H1_6 := Lib.hid (H1_5.out.below bl6)
  have H2_6 := Lib.hid (H2_5.out.below bl6)
  have H6 := Lib.hid ho6
  have B6 := B5.trans (bl6.mono (by omega))
  clear bl6 ho6 H1_5 H2_5 B5
  go_wp2_with fail
  refine (eqIntSS_same _ _ rows _ H6.out.rd H1_6.out.rd).mono ?_
  rintro e w7 ⟨rfl, bl7⟩
  have z7 := bl7.size
  have H2_7 := Lib.hid (H2_6.out.below bl7)
  have B7 := B6.trans (bl7.mono (by omega))
  clear bl7 H1_6 H2_6 H6 B6
  go_wp2_with fail
  refine (heldIntSS_runs _ rows 1 _ H2_7.out.rd (by omega) (by omega)).mono ?_
  rintro e w8 ⟨rfl, bl8⟩
  have B8 := B7.trans (bl8.mono (by omega))
  clear bl8
  go_wp2_with fail
  go_ret
  exact ⟨rfl, B8⟩

end Go.Proofs.Ytebfnjffjedmgaa
