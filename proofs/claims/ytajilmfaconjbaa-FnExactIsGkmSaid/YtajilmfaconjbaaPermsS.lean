/-
  The reference's l8Perms and AllPerms.
-/
import Derived.Test.YtajilmfaconjbaaFact
import Derived.Test.YtajilmfaconjbaaConcat
namespace Go.Proofs.Ytajilmfaconjbaa
set_option linter.all false
open Go.RowKit

/-- x divided by 1, 2, .., j -/
def restAt (x : Nat) : Nat → Nat
  | 0 => x
  | j + 1 => restAt x j / (j + 1)
def digits (n x : Nat) : List Nat := (List.range n).map fun i => restAt x (n - 1 - i) % (n - i)
def permsL (n : Nat) : List (List Int) := (List.range (fact n)).map fun x => decL n (digits n x)
theorem restAt_le (x j : Nat) : restAt x j ≤ x := by
  induction j with
  | zero => exact Nat.le_refl _
  | succ j ih => exact Nat.le_trans (Nat.div_le_self _ _) ih
theorem digits_getD {n x t : Nat} (h : t < n) : (digits n x).getD t 0 = restAt x (n - 1 - t) % (n - t) := by simp [digits, List.getD_eq_getElem?_getD, h]
theorem digits_le (n x : Nat) : ∀ c ∈ digits n x, c ≤ x := by
  intro c hc
  simp only [digits, List.mem_map, List.mem_range] at hc
  obtain ⟨i, _, rfl⟩ := hc
  exact Nat.le_trans (Nat.mod_le _ _) (restAt_le _ _)
theorem permsL_take {n x : Nat} (h : x < fact n) : (permsL n).take (x + 1) = (permsL n).take x ++ [decL n (digits n x)] := by
  rw [List.take_add_one]
  congr 1
  simp [permsL, h]
theorem digits_length (n x : Nat) : (digits n x).length = n := by simp [digits]

set_option maxRecDepth 100000 in
set_option maxHeartbeats 2000000 in
theorem specPerms_any (n : Nat) (hn1 : 1 ≤ n) (hn : n ≤ 5) (w : World) :
    Calls Try.prog 21 #[.int .i64 n] w (RetII w (permsL n)) := by
  have hfn : fact n ≤ 120 := Nat.le_trans (fact_le hn) (by decide)
  have hmk := run_make_row' (P := Try.prog) 22 3 (.int .i64 0) 8 Try.underlying22 info_int rfl .i64 .i64 n (by omega) (by omega)
  have Hfn := Lib.hid hfn
  have Hmk := Lib.hid hmk
  clear hmk
  go_enter Try.func21, Try.ntmps21
  go_wp2
  go_loopg [3, 4] (fact n) (fun g s3 i wr => ∃ (x : Nat) (rows : List (List Int)), x ≤ fact n ∧ g = fact n - x ∧ i = .int .i64 x ∧ Below w.heap.size w wr ∧ Hid (rows = (permsL n).take x) ∧ Hid (OwnII 22 3 wr w.heap.size wr.heap.size s3 rows))
  case atStart =>
    refine ⟨0, [], Nat.zero_le _, rfl, rfl, below_alloc _ _, rfl, ?_⟩
    exact ⟨fun _ => undef, ((OwnF.made0 w _ _)).mono (Nat.le_refl _) (by simp), fun i hi => absurd hi (by simp), fun i j _ hj => absurd hj (by simp)⟩
  case round =>
    obtain ⟨x, rows, hx, rfl, rfl, hb, hr, ho⟩ := hrel
    have hlen : rows.length = x := by rw [hr.out, List.length_take]; simp [permsL]; omega
    obtain ⟨wo, rfl⟩ : ∃ x : World, x = wr := ⟨_, rfl⟩
    obtain ⟨p3, k3, rfl, _, _⟩ := ho.out.shape
    have Hlen := Lib.hid hlen
    clear hlen
    by_cases hlt : x < fact n
    · go_wp2_with fail
      refine (specFactorial_any n (by omega) _).mono ?_
      rintro e w1 ⟨rfl, hq⟩
      have Hq := Lib.hid hq
      clear hq
      have hmk := Hmk.out
      go_wp2
      clear hmk
      obtain ⟨wq, rfl⟩ : ∃ x : World, x = w1 := ⟨_, rfl⟩
      go_loopg [6, 7] n (fun g s6 s7 wr => ∃ j : Nat, j ≤ n ∧ g = n - j ∧ s6 = .int .i64 (restAt x j) ∧ s7 = .int .i64 ((n : Int) - 1 - j) ∧ Below wq.heap.size wq wr ∧ wr.heap.size = wq.heap.size + 1 ∧
        Hid (wr.rowIs wq.heap.size 3 n (fun t => .int .i64 (if n - j ≤ t then ((digits n x).getD t 0 : Nat) else 0))))
      case atStart => exact ⟨0, Nat.zero_le _, rfl, rfl, by simp, below_alloc _ _, by simp, (World.rowIs_made wq (.int .i64 0) n 3).congr fun t ht => by simp [show ¬ n ≤ t by omega]⟩
      case round =>
        obtain ⟨j, hj, rfl, rfl, rfl, hb2, hsz, hrow⟩ := hrel
        by_cases hjlt : j < n
        · obtain ⟨I, hI⟩ : ∃ I : Nat, (n : Int) - 1 - j = I := ⟨n - 1 - j, by omega⟩
          have hIn : I < n := by omega
          rw [hI]
          obtain ⟨J, hJ⟩ : ∃ J : Int, J = (n : Int) - I := ⟨_, rfl⟩
          have hJ1 : 1 ≤ J := by omega
          have hJ2 : J ≤ 5 := by omega
          have hR := restAt_le x j
          generalize hRR : restAt x j = R at hR
          have HRR := Lib.hid hRR
          have HI := Lib.hid hI
          have hfz := hrow.out.frozen I
          have hcl := hrow.out.cell hIn
          clear hRR hI
          go_wp2
          go_roundg (n - (j + 1))
          case measure => omega
          case rel =>
            have hi := HI.out
            have eJ : ((n : Int) - I) = ((j + 1 : Nat) : Int) := by omega
            have hI3 : n - I = j + 1 := by omega
            have hI4 : n - 1 - I = j := by omega
            refine ⟨j + 1, by omega, rfl, ?_, ?_, hb2.setCell (Nat.le_refl _) _, by rw [size_setCell]; exact hsz, (hrow.out.set I _).congr fun t ht => ?_⟩
            · rw [eJ, ← Int.natCast_ediv, show restAt x (j + 1) = R / (j + 1) by rw [← HRR.out]; rfl]
              have hq := Nat.div_le_self R (j + 1)
              have := Hfn.out
              generalize R / (j + 1) = Q at hq ⊢
              rw [w64 (by omega) (by omega)]
            · go_num
            · by_cases e : t = I
              · subst e
                rw [if_pos rfl, if_pos (by omega), digits_getD hIn, hI4, hI3, HRR.out, eJ, ← Int.natCast_emod]
              · simp only [e, if_false]
                by_cases h2 : n - j ≤ t
                · rw [if_pos h2, if_pos (by omega)]
                · rw [if_neg h2, if_neg (by omega)]
        · have hj2 : j = n := by omega
          rw [hj2] at hrow
          have hI : Hid (Ints wr (.slice (some ⟨wq.heap.size, 0, none⟩) n n) ((digits n x).map Int.ofNat)) := by
            refine ⟨some ⟨wq.heap.size, 0, none⟩, n, by simp [digits_length], ⟨by simp [digits_length], by unfold maxLen; omega⟩, fun _ => ⟨_, 0, rfl, fun t ht => ?_⟩⟩
            rw [List.length_map, digits_length] at ht
            rw [Nat.zero_add, hrow.out.cell ht, if_pos (by omega)]
            simp [iv, List.getD_eq_getElem?_getD, digits_length, ht]
          have hbw : Below wo.heap.size wo wr := (Hq.out.below _).trans (by have := Hq.out.size; rw [← this]; exact hb2)
          have Hbw := Lib.hid hbw
          have Hszq := Lib.hid Hq.out.size
          have hx120 := Hfn.out
          have Hdl := Lib.hid (digits_le n x)
          clear hrow hb2 hbw hsz hj2
          go_wp2_with fail
          refine (specDecode_any _ (digits n x) _ hI.out (by rw [digits_length]; omega) (fun c hc => by have := Hdl.out c hc; omega)).mono ?_
          rintro e w5 ⟨u5, rfl, ho5, hb5⟩
          rw [digits_length] at ho5
          obtain ⟨p5, k5, rfl, _, _⟩ := ho5.shape
          obtain ⟨f, g1, g2, g3⟩ := ho.out
          have hbx : Below wo.heap.size wo w5 := Hbw.out.trans (hb5.mono Hbw.out.size)
          have Hbx := Lib.hid hbx
          have G1 := Lib.hid (g1.below hbx)
          have G2 := Lib.hid (fun i hi => (g2 i hi).below hbx)
          have G3 := Lib.hid g3
          have H5 := Lib.hid (ho5.mono Hbw.out.size (Nat.le_refl _))
          have hlx := Hlen.out
          have Hb1 := Lib.hid (show rows.length + 1 ≤ maxLen by unfold maxLen; omega)
          have Hb2 := Lib.hid (show (rows.length + 1) * 24 ≤ 140737488355328 by omega)
          have hs1 := hb.size
          have hs5 := hbx.size
          have hnew := permsL_take hlt
          rw [← hr.out] at hnew
          have Hnew := Lib.hid hnew
          clear hnew
          generalize decL n (digits n x) = new at *
          clear g1 g2 g3 ho5 hbx hb5 hlx
          go_wp2_with (at_builtin; go_must (refine wpList_append_F rfl (.tmp 37) (.tmp 40) 40 rfl 22 (.slice none 0 0) 24 Try.underlying40 info_sl rfl w.heap.size wo.heap.size _ rows.length f rfl (G1.out.below (below_alloc _ _)) (by simp; omega) (by simp; omega) _ _ _ rfl (rd_one _ _ _ rfl) (fun j _ => rfl) Hb1.out Hb2.out ?_; intro v' w' ho' hg'))
          have hsw' := hg'.size
          simp only [size_alloc] at hsw'
          have hblow : Below w.heap.size wo w' := (Hbx.out.mono hs1).trans (((below_alloc w5 _).mono (by omega)).trans (grownBy_below hg' G1.out.blocks (Nat.le_refl _) (by simp; omega)))
          go_roundg (fact n - (x + 1))
          case measure => omega
          case rel =>
            refine ⟨x + 1, rows ++ [new], by omega, rfl, by go_num, hb.trans hblow, ?_, ?_⟩
            · exact Hnew.out.symm
            · exact OwnII.snoc (G1.out.below (below_alloc _ _)) (fun i hi => (G2.out i hi).below (below_alloc _ _)) G3.out (H5.out.below (below_alloc _ _)) hs1 hs5 (by decide) hg' (by omega) ho'
    · go_wp2_with fail
      refine (specFactorial_any n (by omega) _).mono ?_
      rintro e w1 ⟨rfl, hq⟩
      have Hq := Lib.hid hq
      clear hq
      go_wp2_with fail
      go_ret
      obtain rfl : x = fact n := by omega
      refine ⟨_, rfl, ?_, hb.trans (Hq.out.below _)⟩
      have e : rows = permsL n := by rw [hr.out, List.take_of_length_le (by simp [permsL])]
      rw [← e, Hq.out.size]
      exact ho.out.below (Hq.out.below _)

theorem ownII_nil (w : World) (lo hi : Nat) : OwnII 22 3 w lo hi (.slice none 0 0) [] :=
  ⟨fun _ => undef, OwnF.nil _ _ _ _ _, fun i hi => absurd hi (Nat.not_lt_zero _), fun i j _ hj => absurd hj (Nat.not_lt_zero _)⟩
def allPermsL (N : Int) : List (List Int) := if 1 ≤ N ∧ N ≤ 5 then permsL N.toNat else []

end Go.Proofs.Ytajilmfaconjbaa
