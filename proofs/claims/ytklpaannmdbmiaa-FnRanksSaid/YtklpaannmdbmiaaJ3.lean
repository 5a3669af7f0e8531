/-
  MatrixOk, the reference's and the program's: both answer alike.
  slices.Clone at []int; the rows of a matrix; a multiple of a row added to another one.
  addRow: a multiple of a row is added to another one, in it itself.
  l7At: the number at a place of a matrix.
  For a region that draws its order, loads from the boxes of arguments and calls what makes memory: what is kept from world to world. And facts on numbers.
  The law's helpers on slices of slices of ints: compared, written over, read again.
  append on an owned slice, once more: the block of what comes back is the old one, or new.
  The reference's l1Factorial and l1Decode.
  The reference's l8Perms and AllPerms.
  Many rows put behind others.
  The plain law of AllPerms: the program's list of permutations is the reference's.
  Values at fixed points: the numbers for them, and what IsGkm asks. Plain.
-/
import Derived.Test.YtklpaannmdbmiaaJ2
import Derived.StillTailTactics
import Derived.Deep.RegionHeld3
import Derived.Deep.DeepCutAuto
import Derived.Test.YtklpaannmdbmiaaJ1
namespace Go.Proofs.Ytklpaannmdbmiaa
set_option linter.all false
open Go.RowKit

/-- a matrix: one of the four primes, from 0 to 7 rows of from 1 to 7 numbers, each from 0 on and below the prime -/
def mxOk (P R C : Int) (D : List Int) : Bool :=
  decide (primeOk P = true ∧ (0 ≤ R ∧ R ≤ 7) ∧ (1 ≤ C ∧ C ≤ 7) ∧ (D.length : Int) = R * C ∧ ∀ x ∈ D, 0 ≤ x ∧ x < P)

theorem mxOk_no1 {P R C : Int} {D : List Int} (h : primeOk P = false) : mxOk P R C D = false := by
  simp only [mxOk, decide_eq_false_iff_not]; rintro ⟨h1, _⟩; rw [h] at h1; cases h1
theorem mxOk_no2 {P R C : Int} {D : List Int} (h : ¬ (0 ≤ R ∧ R ≤ 7)) : mxOk P R C D = false := by
  simp only [mxOk, decide_eq_false_iff_not]; exact fun e => h e.2.1
theorem mxOk_no3 {P R C : Int} {D : List Int} (h : ¬ (1 ≤ C ∧ C ≤ 7)) : mxOk P R C D = false := by
  simp only [mxOk, decide_eq_false_iff_not]; exact fun e => h e.2.2.1
theorem mxOk_no4 {P R C : Int} {D : List Int} (h : ¬ (D.length : Int) = R * C) : mxOk P R C D = false := by
  simp only [mxOk, decide_eq_false_iff_not]; exact fun e => h e.2.2.2.1
theorem mxOk_no5 {P R C : Int} {D : List Int} {k : Nat} (hk : k < D.length) (h : ¬ (0 ≤ D.getD k 0 ∧ D.getD k 0 < P)) : mxOk P R C D = false := by
  simp only [mxOk, decide_eq_false_iff_not]; exact fun e => h (e.2.2.2.2 _ (getD_mem hk))
theorem mxOk_yes {P R C : Int} {D : List Int} (h1 : primeOk P = true) (h2 : 0 ≤ R ∧ R ≤ 7) (h3 : 1 ≤ C ∧ C ≤ 7) (h4 : (D.length : Int) = R * C) (h5 : ∀ j, j < D.length → 0 ≤ D.getD j 0 ∧ D.getD j 0 < P) : mxOk P R C D = true := by
  simp only [mxOk, decide_eq_true_eq]
  refine ⟨h1, h2, h3, h4, fun x hx => ?_⟩
  obtain ⟨j, hj, rfl⟩ := List.mem_iff_getElem.1 hx
  have := h5 j hj
  rwa [getD_lt hj] at this
theorem primeOk_range {P : Int} (h : primeOk P = true) : 2 ≤ P ∧ P ≤ 7 := by
  have := of_decide_eq_true h
  omega

set_option maxRecDepth 100000 in
set_option maxHeartbeats 1000000 in
theorem implMatrixOk_any (P R C : Int) (d : Value) (D : List Int) (w : World) (h : Ints w d D) :
    Calls Try.prog 29 #[.agg #[.int .i64 P, .int .i64 R, .int .i64 C, d]] w fun e w' => e = .returned (.bool (mxOk P R C D)) ∧ Below w.heap.size w w' := by
  have hI := Lib.hid h
  obtain ⟨p, cap, rfl, ⟨hx1, hx2⟩, hxc⟩ := h
  have Hxc := Lib.hid hxc
  clear hxc
  unfold maxLen at hx2
  cases hp : primeOk P with
  | false =>
    rw [mxOk_no1 hp]
    have Hp := Lib.hid hp
    clear hp
    go_enter Try.func29, Try.ntmps29
    go_wp2_with (go_at_call 24; refine (isPrime_b _ _ Hp.out _).mono ?_; rintro e w' ⟨rfl, rfl⟩)
    go_ret
    exact ⟨rfl, below_alloc _ _⟩
  | true =>
    have Hp := Lib.hid hp
    clear hp
    by_cases hR : 0 ≤ R ∧ R ≤ 7
    case neg =>
      rw [mxOk_no2 hR]
      by_cases hneg : R < 0
      · clear hR
        go_enter Try.func29, Try.ntmps29
        go_wp2_with (go_at_call 24; refine (isPrime_b _ _ Hp.out _).mono ?_; rintro e w' ⟨rfl, rfl⟩)
        go_ret
        exact ⟨rfl, below_alloc _ _⟩
      · have h7 : 7 < R := by omega
        clear hR
        go_enter Try.func29, Try.ntmps29
        go_wp2_with (go_at_call 24; refine (isPrime_b _ _ Hp.out _).mono ?_; rintro e w' ⟨rfl, rfl⟩)
        go_ret
        exact ⟨rfl, below_alloc _ _⟩
    by_cases hC : 1 ≤ C ∧ C ≤ 7
    case neg =>
      rw [mxOk_no3 hC]
      obtain ⟨hR1, hR2⟩ := hR
      have hR1' : ¬ R < 0 := by omega
      have hR2' : ¬ 7 < R := by omega
      by_cases hneg : C < 1
      · clear hC
        go_enter Try.func29, Try.ntmps29
        go_wp2_with (go_at_call 24; refine (isPrime_b _ _ Hp.out _).mono ?_; rintro e w' ⟨rfl, rfl⟩)
        go_ret
        exact ⟨rfl, below_alloc _ _⟩
      · have h7 : 7 < C := by omega
        clear hC
        go_enter Try.func29, Try.ntmps29
        go_wp2_with (go_at_call 24; refine (isPrime_b _ _ Hp.out _).mono ?_; rintro e w' ⟨rfl, rfl⟩)
        go_ret
        exact ⟨rfl, below_alloc _ _⟩
    have hR' := hR
    have hC' := hC
    obtain ⟨r, rfl⟩ := Int.eq_ofNat_of_zero_le hR.1
    obtain ⟨c, rfl⟩ := Int.eq_ofNat_of_zero_le (show (0 : Int) ≤ C by omega)
    have hrc : r * c ≤ 7 * 7 := Nat.mul_le_mul (by omega) (by omega)
    obtain ⟨N, hN, hwr, hwk⟩ := mul_named r c (by omega)
    have HR := Lib.hid hR'
    have HC := Lib.hid hC'
    have Hwr := Lib.hid hwr
    have Hwk := Lib.hid hwk
    have t1 : decide ((r : Int) < 0) = false := decide_eq_false (by omega)
    have t2 : decide (7 < (r : Int)) = false := by simp; omega
    have t3 : decide ((c : Int) < 1) = false := by simp; omega
    have t4 : decide (7 < (c : Int)) = false := by simp; omega
    clear hwr hwk hR hC hR' hC'
    have hNi : (N : Int) = (r : Int) * (c : Int) := by rw [hN]; exact Int.natCast_mul r c
    by_cases hl : D.length = N
    case neg =>
      rw [mxOk_no4 (by rw [← hNi]; omega)]
      have hl1 : ((D.length : Int) != (N : Int)) = true := by simp; omega
      have hwr := Hwr.out
      clear hl hN hNi hrc
      go_enter Try.func29, Try.ntmps29
      go_wp2_with (go_at_call 24; refine (isPrime_b _ _ Hp.out _).mono ?_; rintro e w' ⟨rfl, rfl⟩)
      go_ret
      exact ⟨rfl, below_alloc _ _⟩
    have hl1 : ((D.length : Int) != (N : Int)) = false := by simp; omega
    have Hl := Lib.hid hl
    have HNi := Lib.hid hNi
    have hwr := Hwr.out
    have hN49 : D.length ≤ 49 := by omega
    clear hl hN hNi hrc
    have Hp2 := Lib.hid (primeOk_range Hp.out)
    go_enter Try.func29, Try.ntmps29
    go_wp2_with (go_at_call 24; refine (isPrime_b _ _ Hp.out _).mono ?_; rintro e w' ⟨rfl, rfl⟩)
    clear hwr hl1 t1 t2 t3 t4
    go_loopg [43] D.length (fun g i wr => ∃ k : Nat, k ≤ D.length ∧ g = D.length - k ∧ i = .int .i64 k ∧ wr = (w.alloc (.cells #[.int .i64 P, .int .i64 r, .int .i64 c, .slice p D.length cap] 26)) ∧ Hid (∀ j, j < k → 0 ≤ D.getD j 0 ∧ D.getD j 0 < P))
    case atStart => exact ⟨0, Nat.zero_le _, rfl, rfl, rfl, fun j hj => absurd hj (Nat.not_lt_zero _)⟩
    case round =>
      obtain ⟨k, hk, rfl, rfl, hq, hp⟩ := hrel
      have hq' : Qt (w.alloc (.cells #[.int .i64 P, .int .i64 r, .int .i64 c, .slice p D.length cap] 26)) wr := hq ▸ Qt.refl _
      have Hq := Lib.hid hq
      clear hq
      obtain ⟨c0, c1, c2, c3, cf, hz⟩ := blk4 (blk_later (heap_alloc_top w _) (hq'.below _))
      by_cases hlt : k < D.length
      · obtain ⟨b, off, rfl, hc⟩ := Hxc.out (by omega)
        have c4 : wr.cell? ⟨b, off + k, none⟩ = some (.int .i64 (D.getD k 0)) :=
          hq'.cell ((below_alloc w _).cell (p := ⟨b, off + k, none⟩) (World.block_lt_of_cell? _ _ (hc k hlt)) ▸ hc k hlt)
        clear hc
        by_cases hin : 0 ≤ D.getD k 0 ∧ D.getD k 0 < P
        · have Hin := Lib.hid hin
          have hge0 := getD_lt hlt
          have hd1 : ¬ D[k] < 0 := by omega
          have hd2 : ¬ P ≤ D[k] := by omega
          clear hin hge0
          go_wp2_with fail
          go_roundg (D.length - (k + 1))
          case measure => omega
          case rel =>
            refine ⟨k + 1, by omega, rfl, by go_num, Hq.out, fun j hj => ?_⟩
            by_cases e : j = k
            · subst e; exact Hin.out
            · exact hp.out j (by omega)
        · have Hin := Lib.hid hin
          have hge0 := getD_lt hlt
          by_cases hneg : D[k] < 0
          · clear hin hge0
            go_wp2_with fail
            go_ret
            exact ⟨ret_bool (mxOk_no5 hlt Hin.out).symm, (below_alloc w _).trans (hq'.below _)⟩
          · have hge : P ≤ D[k] := by omega
            clear hin hge0
            go_wp2_with fail
            go_ret
            exact ⟨ret_bool (mxOk_no5 hlt Hin.out).symm, (below_alloc w _).trans (hq'.below _)⟩
      · go_wp2_with fail
        go_ret
        exact ⟨ret_bool (mxOk_yes Hp.out HR.out HC.out (by rw [Hl.out]; exact HNi.out) (fun j hj => hp.out j (by omega))).symm, (below_alloc w _).trans (hq'.below _)⟩

end Go.Proofs.Ytklpaannmdbmiaa

namespace Go.Proofs.Ytklpaannmdbmiaa
set_option linter.all false
open Go.RowKit

/-- a call returned this list, in new memory, and changed nothing that was there -/
def RetI (w : World) (xs : List Int) (e : Ending) (w' : World) : Prop :=
  ∃ u, e = .returned u ∧ OwnI 3 w' w.heap.size w'.heap.size u xs ∧ Below w.heap.size w w'
/-- .. this list of lists -/
def RetII (w : World) (rows : List (List Int)) (e : Ending) (w' : World) : Prop :=
  ∃ u, e = .returned u ∧ OwnII 24 3 w' w.heap.size w'.heap.size u rows ∧ Below w.heap.size w w'

set_option maxRecDepth 100000 in
set_option maxHeartbeats 400000 in
theorem clone_any (v : Value) (xs : List Int) (w : World) (h : Ints w v xs) (hl : xs.length ≤ 1000000) :
    Calls Try.prog 43 #[v] w (RetI w xs) := by
  have hI := Lib.hid h
  obtain ⟨p, cap, rfl, ⟨hx1, hx2⟩, hxc⟩ := h
  have keq := fun (n c : Nat) => Lib.run_eql_slice_nil (P := Try.prog) w 24 3 p n c 0 0 Try.underlying24
  cases p with
  | none =>
    have hx0 : xs.length = 0 := by
      rcases Nat.eq_zero_or_pos xs.length with h0 | h0
      · exact h0
      · obtain ⟨b, off, e, _⟩ := hxc h0; cases e
    obtain rfl := List.eq_nil_of_length_eq_zero hx0
    clear hxc hI
    go_enter Try.func43, Try.ntmps43
    go_wp2_with fail
    go_ret
    exact ⟨_, rfl, ⟨World.ownsRow_nil _ _ _ _, fun k hk => by simp [Value.ownBlock] at hk⟩, Below.refl _ _⟩
  | some a =>
    have Hb1 := Lib.hid (show 0 + xs.length ≤ maxLen by unfold maxLen; omega)
    have Hb2 := Lib.hid (show (0 + xs.length) * 8 ≤ 140737488355328 by omega)
    clear hxc
    go_enter Try.func43, Try.ntmps43
    go_wp2_with (at_builtin; go_must (refine wpList_append_F rfl (.tmp 5) (.tmp 6) 24 rfl 3 (.int .i64 0) 8 Try.underlying24 info_int rfl w.heap.size (w.heap.size + 1) _ 0 (fun _ => undef) rfl (OwnF.made0 w _ _) (by simp) (by simp) _ _ _ rfl (hI.out.below (below_alloc w _)) (fun j _ => iv_one _ j) Hb1.out Hb2.out ?_; intro v' w' ho' hg'))
    go_ret
    refine ⟨_, rfl, OwnF.ints ?_, (below_alloc w _).trans (grownBy_below hg' (OwnF.made0 w 3 (fun _ => undef)).blocks (Nat.le_refl _) (by simp))⟩
    rw [Nat.zero_add] at ho'
    exact ho'.congr fun j _ => by simp

set_option maxRecDepth 100000 in
set_option maxHeartbeats 1000000 in
/-- the rows of a matrix, each in memory of its own -/
theorem lines_any (P : Int) (R C : Nat) (d : Value) (D : List Int) (w : World) (h : Ints w d D) (hR : R ≤ 1000) (hC : C ≤ 1000) (hC0 : 1 ≤ C) (hD : D.length = R * C) :
    Calls Try.prog 30 #[.agg #[.int .i64 P, .int .i64 (R : Int), .int .i64 (C : Int), d]] w (RetII w (rowsOf R C D)) := by
  have hI := Lib.hid h
  obtain ⟨p, cap, rfl, ⟨hx1, hx2⟩, hxc⟩ := h
  unfold maxLen at hx2
  have Hxc := Lib.hid hxc
  have HD := Lib.hid hD
  clear hxc hD
  go_enter Try.func30, Try.ntmps30
  go_wp2_with fail
  go_loopg [3, 8] R (fun g s3 i wr => ∃ k : Nat, k ≤ R ∧ g = R - k ∧ i = .int .i64 k ∧ Below (w.heap.size + 1) (w.alloc (.cells #[.int .i64 P, .int .i64 (R : Int), .int .i64 (C : Int), .slice p D.length cap] 26)) wr ∧
    OwnII 24 3 wr (w.heap.size + 1) wr.heap.size s3 ((rowsOf R C D).take k))
  case atStart =>
    have hm0 := OwnF.made0 (w.alloc (.cells #[.int .i64 P, .int .i64 (R : Int), .int .i64 (C : Int), .slice p D.length cap] 26)) 24 (fun _ => undef)
    simp only [size_alloc] at hm0
    exact ⟨0, Nat.zero_le _, rfl, rfl, (Below.refl _ _).alloc (by simp) _, fun _ => undef, hm0.mono (Nat.le_refl _) (by simp), fun i hi => absurd hi (by simp), fun i j _ hj => absurd hj (by simp)⟩
  case round =>
    obtain ⟨k, hk, rfl, rfl, hb, f, g1, g2, g3⟩ := hrel
    obtain ⟨c0, c1, c2, c3, cf, hz⟩ := blk4 (show wr.heap[w.heap.size]? = _ by rw [hb.block _ (by omega)]; exact heap_alloc_top w _)
    by_cases hlt : k < R
    · have hDl := HD.out
      have hkc := mul_le_of (C := C) hlt
      rw [Nat.add_mul, Nat.one_mul] at hkc
      have hRC : R * C ≤ 1000 * 1000 := Nat.mul_le_mul hR hC
      obtain ⟨K, hK, hr1, hr2⟩ := row_named k C (by omega)
      have hKn : K + C ≤ D.length := by omega
      have hKc : K < cap := by omega
      obtain ⟨b, off, rfl, hc⟩ := Hxc.out (by omega)
      have HK := Lib.hid hK
      have hbw : Below w.heap.size w wr := (below_alloc w _).trans (hb.mono (by omega))
      have Hrow := Lib.hid (Rd.part (hI.out.below hbw) K C (cap - K) hKn (by omega) (by unfold maxLen; omega))
      obtain ⟨r1, r2⟩ := hr1.out
      clear hc hDl hkc hRC hK hr2 hr1
      have hri : Ints wr (.slice (some ⟨b, off + K, none⟩) C (cap - K)) (rowAt C D k) := by
        have hrl : (rowAt C D k).length = C := rowAt_length (by rw [Nat.add_mul, Nat.one_mul, ← HK.out]; exact hKn)
        unfold Ints
        rw [hrl]
        exact Hrow.out.congr fun j hj => by rw [iv, iv, rowAt_getD hj, HK.out]
      have Hri := Lib.hid hri
      have hlen : ((rowsOf R C D).take k).length = k := by rw [List.length_take, rowsOf_length]; omega
      have Hlen := Lib.hid hlen
      rw [hlen] at g1 g2 g3
      have hrow1 : (rowAt C D k).length ≤ 1000000 := by rw [rowAt_length (by rw [Nat.add_mul, Nat.one_mul, ← HK.out]; exact hKn)]; omega
      have G1 := Lib.hid g1
      have G2 := Lib.hid g2
      have G3 := Lib.hid g3
      have hsz := hb.size
      simp only [size_alloc] at hsz
      have Hb1 := Lib.hid (show k + 1 ≤ maxLen by unfold maxLen; omega)
      have Hb2 := Lib.hid (show (k + 1) * 24 ≤ 140737488355328 by omega)
      clear g1 g2 g3 hlen hri hrow1
      go_wp2_with (at_builtin; fail)
      refine (clone_any _ _ _ Hri.out (by rw [rowAt_length (by rw [Nat.add_mul, Nat.one_mul, ← HK.out]; exact hKn)]; omega)).mono ?_
      rintro e w1 ⟨u, rfl, ho, hb1⟩
      obtain ⟨up, ucap, rfl, _, _⟩ := ho.shape
      have Ho := Lib.hid ho
      have G1' := Lib.hid fun o => (G1.out.below hb1).below (below_alloc w1 o)
      have hsz1 := hb1.size
      have Hb := Lib.hid hb
      have Hb1' := Lib.hid hb1
      clear ho r1 r2 hb hb1 c0 c1 c2 c3 cf hz
      go_wp2_with (at_builtin; go_must (refine wpList_append_F rfl (.tmp 11) (.tmp 25) 51 rfl 24 (.slice none 0 0) 24 Try.underlying51 info_sl rfl (w.heap.size + 1) wr.heap.size u3 k f rfl (G1'.out _) (by simp; omega) (by simp; omega) _ _ _ rfl (rd_one _ _ _ rfl) (fun j _ => rfl) Hb1.out Hb2.out ?_; intro v' w' ho' hg'))
      have hs := hg'.size
      simp only [size_alloc] at hs
      go_roundg (R - (k + 1))
      case measure => omega
      case rel =>
        refine ⟨k + 1, by omega, rfl, by go_num, (Hb.out.trans ((Hb1'.out.trans (below_alloc w1 _ |>.mono hsz1)).mono hsz)).trans (grownBy_below hg' (G1'.out default).blocks (Nat.le_refl _) (by simp; omega)), ?_⟩
        have ht : (rowsOf R C D).take (k + 1) = (rowsOf R C D).take k ++ [rowAt C D k] := by
          rw [List.take_succ_eq_append_getElem (by rw [rowsOf_length]; exact hlt)]
          simp [rowsOf]
        rw [ht]
        refine OwnII.snoc (mid := wr.heap.size) (hi := w1.heap.size) (f := f) ?_ ?_ ?_ (Ho.out.below (below_alloc w1 _)) (by omega) hsz1 (by decide) hg' (by omega) ?_
        · rw [Hlen.out]; exact G1'.out _
        · rw [Hlen.out]; exact fun i hi => ((G2.out i hi).below Hb1'.out).below (below_alloc w1 _)
        · rw [Hlen.out]; exact G3.out
        · rw [Hlen.out]; exact ho'
    · obtain rfl : k = R := by omega
      rw [List.take_of_length_le (by rw [rowsOf_length]; exact Nat.le_refl _)] at g1 g2 g3
      have HII := Lib.hid (show OwnII 24 3 wr (w.heap.size + 1) wr.heap.size u3 (rowsOf k C D) from ⟨f, g1, g2, g3⟩)
      clear g1 g2 g3
      go_wp2_with fail
      go_ret
      exact ⟨_, rfl, HII.out.mono (by omega) (Nat.le_refl _), (below_alloc w _).trans (hb.mono (by omega))⟩

end Go.Proofs.Ytklpaannmdbmiaa

namespace Go.Proofs.Ytklpaannmdbmiaa
set_option linter.all false
open Go.RowKit

/-- a multiple of a row added to another one, number by number, modulo p -/
def addRowL (p k : Int) (xs ys : List Int) : List Int := (List.range xs.length).map fun (j : Nat) => (xs.getD j 0 + k * ys.getD j 0) % p
theorem addRowL_length (p k : Int) (xs ys : List Int) : (addRowL p k xs ys).length = xs.length := by simp [addRowL]
theorem addRowL_getD {p k : Int} {xs ys : List Int} {j : Nat} (h : j < xs.length) : (addRowL p k xs ys).getD j 0 = (xs.getD j 0 + k * ys.getD j 0) % p := by
  simp [addRowL, List.getD_eq_getElem?_getD, h]

/-- all numbers small, none below 0 -/
def Small (xs : List Int) : Prop := ∀ x ∈ xs, 0 ≤ x ∧ x ≤ 1000
theorem Small.at_ {xs : List Int} (h : Small xs) (j : Nat) : 0 ≤ xs.getD j 0 ∧ xs.getD j 0 ≤ 1000 := by
  by_cases hj : j < xs.length
  · exact h _ (getD_mem hj)
  · simp [List.getD_eq_getElem?_getD, show xs[j]? = none by simp; omega]

theorem grownBy_frm {w w' : World} {v : Value} {lo hi : Nat} (h : w.grownBy w' v.ownBlock) (hlo : ∀ k, v.ownBlock = some k → lo ≤ k ∧ k < hi) : Frm lo hi w w' :=
  ⟨h.os, h.tape, h.output, h.size, fun k hk ho => h.block k hk fun e => by have := hlo k e.symm; omega⟩

set_option maxRecDepth 100000 in
set_option maxHeartbeats 1000000 in
theorem addRow_any (v u : Value) (xs ys : List Int) (k p : Int) (lo hi : Nat) (w : World) (h : OwnI 3 w lo hi v xs) (hu : Ints w u ys) (hne : ∀ b, v.ownBlock = some b → u.ownBlock ≠ some b)
    (hl : xs.length ≤ ys.length) (hxs : Small xs) (hys : Small ys) (hk : 0 ≤ k ∧ k ≤ 1000) (hp : 1 ≤ p ∧ p ≤ 1000) :
    Calls Try.prog 44 #[v, .int .i64 k, u, .int .i64 p] w fun e w' => e = .returned (.tuple #[]) ∧ OwnI 3 w' lo hi v (addRowL p k xs ys) ∧ w.grownBy w' v.ownBlock := by
  obtain ⟨a, cap, rfl, hnc, hcm, _⟩ := h.fn.shape
  unfold maxLen at hcm
  obtain ⟨q, capu, rfl, ⟨hu1, hu2⟩, huc⟩ := hu
  unfold maxLen at hu2
  have Hf := Lib.hid h.fn
  have Hne := Lib.hid hne
  have Huc := Lib.hid huc
  have Hk := Lib.hid hk
  have Hp := Lib.hid hp
  have Hxs := Lib.hid hxs
  have Hys := Lib.hid hys
  clear hne huc hk hp hxs hys h
  go_enter Try.func44, Try.ntmps44
  go_wp2_with fail
  go_loopg [11] xs.length (fun g i wr => ∃ j : Nat, j ≤ xs.length ∧ g = xs.length - j ∧ i = .int .i64 j ∧ World.grownBy w wr (Value.ownBlock (.slice a xs.length cap)) ∧
    OwnF wr lo hi 3 (.slice a xs.length cap) xs.length (fun t => if t < j then .int .i64 ((xs.getD t 0 + k * ys.getD t 0) % p) else iv xs t))
  case atStart => exact ⟨0, Nat.zero_le _, rfl, rfl, World.grownBy.refl _ _, Hf.out.congr fun t _ => by simp⟩
  case round =>
    obtain ⟨j, hj, rfl, rfl, hg, hr⟩ := hrel
    by_cases hlt : j < xs.length
    · obtain ⟨g, rfl, hg1, hg2, hg3⟩ := hr.at_ (by omega)
      obtain ⟨b, off, rfl, hc⟩ := Huc.out (by omega)
      have hbg : b ≠ g := fun e => Hne.out g rfl (by simp [Value.ownBlock, e])
      obtain ⟨x, hx⟩ : ∃ x, x = xs.getD j 0 := ⟨_, rfl⟩
      obtain ⟨y, hy⟩ : ∃ y, y = ys.getD j 0 := ⟨_, rfl⟩
      have c1 : wr.cell? ⟨g, j, none⟩ = some (.int .i64 x) := by rw [hr.cell hlt]; simp [iv, hx]
      have c2 : wr.cell? ⟨b, off + j, none⟩ = some (.int .i64 y) := by
        have h0 := hc j (by omega)
        rw [World.cell?_of_block (w := w) (hg.block b (World.block_lt_of_cell? _ _ h0) (by simp [Value.ownBlock]; exact hbg)), h0, iv, hy]
      have c3 := hr.frozen j
      have hju : j < ys.length := by omega
      have sx := Hxs.out.at_ j
      have sy := Hys.out.at_ j
      rw [← hx] at sx
      rw [← hy] at sy
      have hkk := Hk.out
      have hpp := Hp.out
      have hm0 : 0 ≤ k * y := Int.mul_nonneg hkk.1 sy.1
      have hm1 : k * y ≤ 1000 * 1000 := Int.mul_le_mul hkk.2 sy.2 sy.1 (by omega)
      have b1 : -1000000000000000000 ≤ k * y := by omega
      have b2 : k * y ≤ 1000000000000000000 := by omega
      have b3 : -1000000000000000000 ≤ x + k * y := by omega
      have b4 : x + k * y ≤ 1000000000000000000 := by omega
      have hnn : 0 ≤ x + k * y := by omega
      have hp0 : ¬ p = 0 := by omega
      have e1 : Int.tmod (x + k * y) p = (x + k * y) % p := Int.tmod_eq_emod_of_nonneg hnn
      have b5 : 0 ≤ (x + k * y) % p := Int.emod_nonneg _ (by omega)
      have b6 : (x + k * y) % p < p := Int.emod_lt_of_pos _ (by omega)
      have b7 : -1000000000000000000 ≤ (x + k * y) % p := by omega
      have b8 : (x + k * y) % p ≤ 1000000000000000000 := by omega
      have Hx := Lib.hid hx
      have Hy := Lib.hid hy
      have E1 := Lib.hid e1
      have Hg := Lib.hid hg
      have Hr := Lib.hid hr
      have f1 := k64 b1 b2
      have f2 := k64 b3 b4
      have f3 := k64 b7 b8
      clear hx hy hc sx sy hm0 hm1 b1 b2 b3 b4 b5 b6 b7 b8 hg hr e1 hkk hpp
      go_wp2_with fail
      go_still_tail 16, (by kernel_rfl)
      change wpList _ _ _ _ _ wr.drew
      clear f1 f2 f3
      go_wp2_with fail
      go_roundg (xs.length - (j + 1))
      case measure => omega
      case rel =>
        refine ⟨j + 1, by omega, rfl, by go_num, ?_, OwnF.congr (f := fun t => if t = j then .int .i64 ((x + k * y) % p) else if t < j then .int .i64 ((xs.getD t 0 + k * ys.getD t 0) % p) else iv xs t) ?_ fun t ht => ?_⟩
        · exact ⟨Hg.out.os, Hg.out.tape, Hg.out.output, by simpa [World.setCell] using Hg.out.size, fun i hi hne => (Below.heap_setCell _ _ _ _ (by simpa [Value.ownBlock] using hne)).trans (Hg.out.block i hi hne)⟩
        · exact (Hr.out.set j _).keep fun _ _ _ _ => rfl
        · by_cases e : t = j
          · subst e
            simp only [if_true, show t < t + 1 by omega]
            rw [Hx.out, Hy.out]
          · by_cases e2 : t < j
            · simp only [e, if_false, e2, if_true, show t < j + 1 by omega]
            · simp only [e, if_false, e2, show ¬ t < j + 1 by omega]
    · go_wp2_with fail
      go_end0
      refine ⟨rfl, OwnF.ints ?_, hg⟩
      obtain rfl : j = xs.length := by omega
      rw [addRowL_length]
      exact hr.congr fun t ht => by simp only [ht, if_true]; rw [iv, addRowL_getD ht]

end Go.Proofs.Ytklpaannmdbmiaa

namespace Go.Proofs.Ytklpaannmdbmiaa
set_option linter.all false
open Go.RowKit

end Go.Proofs.Ytklpaannmdbmiaa

namespace Go.Proofs.Ytklpaannmdbmiaa
set_option linter.all false
open Go.RowKit

theorem cell_below {w w' : World} {a : Addr} {v : Value} (hb : Below w.heap.size w w') (h : w.cell? a = some v) : w'.cell? a = some v := by
  rw [hb.cell (World.block_lt_of_cell? _ _ h)]; exact h
theorem held_ints {c : Prop} {wr W : World} {v : Value} {xs : List Int} (h : Ints wr v xs) (hS : c ∧ Below wr.heap.size wr W) : Ints W v xs := h.below hS.2
theorem held_below {c : Prop} {wr W : World} (hS : c ∧ Below wr.heap.size wr W) : Below wr.heap.size wr W := hS.2
theorem keep4 {wr W W' : World} {a0 a1 a2 a3 : Addr} {v0 v1 v2 v3 : Value} (hb : Below W.heap.size W W')
    (h : (W.cell? a0 = some v0 ∧ W.cell? a1 = some v1 ∧ W.cell? a2 = some v2 ∧ W.cell? a3 = some v3) ∧ Below wr.heap.size wr W) :
    (W'.cell? a0 = some v0 ∧ W'.cell? a1 = some v1 ∧ W'.cell? a2 = some v2 ∧ W'.cell? a3 = some v3) ∧ Below wr.heap.size wr W' :=
  ⟨⟨cell_below hb h.1.1, cell_below hb h.1.2.1, cell_below hb h.1.2.2.1, cell_below hb h.1.2.2.2⟩, below_trans h.2 hb⟩
theorem keep8 {wr W W' : World} {a0 a1 a2 a3 a4 a5 a6 a7 : Addr} {v0 v1 v2 v3 v4 v5 v6 v7 : Value} (hb : Below W.heap.size W W')
    (h : (W.cell? a0 = some v0 ∧ W.cell? a1 = some v1 ∧ W.cell? a2 = some v2 ∧ W.cell? a3 = some v3 ∧ W.cell? a4 = some v4 ∧ W.cell? a5 = some v5 ∧ W.cell? a6 = some v6 ∧ W.cell? a7 = some v7) ∧ Below wr.heap.size wr W) :
    (W'.cell? a0 = some v0 ∧ W'.cell? a1 = some v1 ∧ W'.cell? a2 = some v2 ∧ W'.cell? a3 = some v3 ∧ W'.cell? a4 = some v4 ∧ W'.cell? a5 = some v5 ∧ W'.cell? a6 = some v6 ∧ W'.cell? a7 = some v7) ∧ Below wr.heap.size wr W' :=
  ⟨⟨cell_below hb h.1.1, cell_below hb h.1.2.1, cell_below hb h.1.2.2.1, cell_below hb h.1.2.2.2.1, cell_below hb h.1.2.2.2.2.1, cell_below hb h.1.2.2.2.2.2.1, cell_below hb h.1.2.2.2.2.2.2.1, cell_below hb h.1.2.2.2.2.2.2.2⟩, below_trans h.2 hb⟩

/-- numbers of a matrix that is right, at a place or behind the end -/
theorem getD_range {D : List Int} {P : Int} (h : ∀ x ∈ D, 0 ≤ x ∧ x < P) (hP : 0 < P) (j : Nat) : 0 ≤ D.getD j 0 ∧ D.getD j 0 < P := by
  by_cases hj : j < D.length
  · exact h _ (getD_mem hj)
  · simp [List.getD_eq_getElem?_getD, show D[j]? = none by simp; omega, hP]
theorem mul_range {x y a b : Int} (h1 : 0 ≤ x) (h2 : x ≤ a) (h3 : 0 ≤ y) (h4 : y ≤ b) : 0 ≤ x * y ∧ x * y ≤ a * b :=
  ⟨Int.mul_nonneg h1 h3, Int.mul_le_mul h2 h4 h3 (by omega)⟩

end Go.Proofs.Ytklpaannmdbmiaa

namespace Go.Proofs.Ytklpaannmdbmiaa
set_option linter.all false
open Go.RowKit

theorem ints_at {w : World} {v : Value} {rows : List (List Int)} {f : Nat → Value} (h : ∀ i, i < rows.length → Ints w (f i) (rows.getD i [])) {i : Nat} (hi : i < rows.length) :
    ∃ p cap, f i = .slice p (rows.getD i []).length cap ∧ (rows.getD i []).length ≤ cap ∧ cap ≤ maxLen := by
  obtain ⟨p, cap, e, ⟨h1, h2⟩, _⟩ := h i hi
  exact ⟨p, cap, e, h1, h2⟩

theorem keep2 {wr W W' : World} {a0 a1 : Addr} {v0 v1 : Value} (hb : Below W.heap.size W W') (h : (W.cell? a0 = some v0 ∧ W.cell? a1 = some v1) ∧ Below wr.heap.size wr W) :
    (W'.cell? a0 = some v0 ∧ W'.cell? a1 = some v1) ∧ Below wr.heap.size wr W' := ⟨⟨cell_below hb h.1.1, cell_below hb h.1.2⟩, below_trans h.2 hb⟩

/-- two lists of lists are the same row by row -/
theorem rows_eq {xs ys : List (List Int)} (hl : xs.length = ys.length) (h : ∀ j, j < xs.length → xs.getD j [] = ys.getD j []) : xs = ys := by
  apply List.ext_getElem hl
  intro i h1 h2
  have := h i h1
  simpa [List.getD_eq_getElem?_getD, h1, h2] using this

/-- slices of different types lie in different blocks -/
theorem own_types {Ts Ti : TypeId} {w : World} {lo hi lo1 hi1 n : Nat} {v y : Value} {f : Nat → Value} {ys : List Int} (g1 : OwnF w lo hi Ts v n f) (hy : OwnI Ti w lo1 hi1 y ys) (hT : Ts ≠ Ti)
    {k : Nat} (hv : v.ownBlock = some k) (hk : y.ownBlock = some k) : False := by
  obtain ⟨zs, hz, _⟩ := g1
  rcases Own.row hz with ⟨e1, _⟩ | ⟨g, cap', F, e1, _, _, _, _, hr, _⟩
  · rw [e1] at hv; simp [Value.ownBlock] at hv
  · rw [e1] at hv
    simp only [Value.ownBlock, Option.some.injEq] at hv
    subst hv
    rcases Own.row hy with ⟨e2, _⟩ | ⟨g', cap2, F2, e2, _, _, _, _, hr2, _⟩
    · rw [e2] at hk; simp [Value.ownBlock] at hk
    · rw [e2] at hk
      simp only [Value.ownBlock, Option.some.injEq] at hk
      subst hk
      obtain ⟨c, hc, _⟩ := hr
      obtain ⟨c2, hc2, _⟩ := hr2
      rw [hc] at hc2
      injection hc2 with hc2
      injection hc2 with _ hc2
      exact hT hc2
/-- an owned slice lies in its own block, or in none -/
theorem OwnI.tight {T : TypeId} {w : World} {lo hi : Nat} {v : Value} {xs : List Int} (h : OwnI T w lo hi v xs) :
    ∃ lo' hi', OwnI T w lo' hi' v xs ∧ (∀ k, lo' ≤ k → k < hi' → v.ownBlock = some k ∧ lo ≤ k ∧ k < hi) := by
  obtain ⟨⟨hl, hr⟩, hh⟩ := h
  rcases hr with ⟨rfl, h0⟩ | ⟨g, cap, cur, rfl, hg, r⟩
  · exact ⟨0, 0, ⟨⟨hl, .inl ⟨rfl, h0⟩⟩, fun k hk => by simp [Value.ownBlock] at hk⟩, fun k h1 h2 => absurd h2 (Nat.not_lt_zero _)⟩
  · refine ⟨g, g + 1, ⟨⟨hl, .inr ⟨g, cap, cur, rfl, Nat.le_refl _, r⟩⟩, fun k hk => by simp [Value.ownBlock] at hk; omega⟩, fun k h1 h2 => ?_⟩
    obtain rfl : k = g := by omega
    exact ⟨rfl, hg, hh k rfl⟩

theorem OwnI.widen {T : TypeId} {w : World} {lo hi lo' hi' : Nat} {v : Value} {xs : List Int} (h : OwnI T w lo' hi' v xs) (hin : ∀ k, v.ownBlock = some k → lo ≤ k ∧ k < hi) : OwnI T w lo hi v xs := by
  obtain ⟨⟨hl, hr⟩, hh⟩ := h
  rcases hr with ⟨rfl, h0⟩ | ⟨g, cap, cur, rfl, hg, r⟩
  · exact ⟨⟨hl, .inl ⟨rfl, h0⟩⟩, fun k hk => by simp [Value.ownBlock] at hk⟩
  · exact ⟨⟨hl, .inr ⟨g, cap, cur, rfl, (hin g rfl).1, r⟩⟩, fun k hk => (hin k hk).2⟩
theorem OwnI.besides {T : TypeId} {w w' : World} {lo hi lo' hi' : Nat} {v : Value} {xs : List Int} (h : OwnI T w lo hi v xs) (hf : Frm lo' hi' w w') (hne : ∀ b, v.ownBlock = some b → b < lo' ∨ hi' ≤ b) : OwnI T w' lo hi v xs :=
  ⟨ownsRow_of_block h.1 fun b hb => hf.block b (Own.block h hb).2.2 (hne b hb), h.2⟩
theorem OwnF.besides {T : TypeId} {w w' : World} {lo hi lo' hi' n : Nat} {v : Value} {f : Nat → Value} (h : OwnF w lo hi T v n f) (hf : Frm lo' hi' w w') (hne : ∀ b, v.ownBlock = some b → b < lo' ∨ hi' ≤ b) : OwnF w' lo hi T v n f := by
  obtain ⟨xs, h, hx⟩ := h
  exact ⟨xs, ⟨ownsRow_of_block h.1 fun b hb => hf.block b (Own.block h hb).2.2 (hne b hb), h.2⟩, hx⟩

/-- how many numbers the first k rows have -/
def pre (rows : List (List Int)) (k : Nat) : Nat := (rows.take k).flatten.length
theorem pre_zero (rows : List (List Int)) : pre rows 0 = 0 := by simp [pre]
theorem pre_succ (rows : List (List Int)) (k : Nat) (h : k < rows.length) : pre rows (k + 1) = pre rows k + (rows.getD k []).length := by
  have e : rows[k]? = some (rows.getD k []) := by rw [List.getD_eq_getElem?_getD, List.getElem?_eq_getElem h]; rfl
  unfold pre
  rw [List.take_add_one, List.flatten_append, List.length_append, e]
  simp only [Option.toList, List.flatten_cons, List.flatten_nil, List.append_nil]
theorem pre_le (rows : List (List Int)) (k : Nat) : pre rows k ≤ rows.flatten.length := by
  have e : rows.flatten.length = (rows.take k).flatten.length + (rows.drop k).flatten.length := by
    rw [← List.length_append, ← List.flatten_append, List.take_append_drop]
  unfold pre; omega
theorem pre_all (rows : List (List Int)) : pre rows rows.length = rows.flatten.length := by simp [pre]
/-- the rows, written over by m, m+1, .. -/
def runsII (m : Int) (rows : List (List Int)) : List (List Int) := (List.range rows.length).map fun i => runs (m + pre rows i) (rows.getD i []).length
theorem length_runsII (m : Int) (rows : List (List Int)) : (runsII m rows).length = rows.length := by simp [runsII]
theorem getD_runsII (m : Int) (rows : List (List Int)) {i : Nat} (h : i < rows.length) : (runsII m rows).getD i [] = runs (m + pre rows i) (rows.getD i []).length := by
  simp [runsII, List.getD_eq_getElem?_getD, h]

end Go.Proofs.Ytklpaannmdbmiaa

namespace Go.Proofs.Ytklpaannmdbmiaa
set_option linter.all false
open Go.RowKit

theorem run_append_where {P : Program} (w : World) (t ty e : TypeId) (i : TypeInfo) (z : Value) (bytes : Nat) (ht : P.underlying t = some (.slice e)) (hi : P.info? e = some i) (hz : i.zero = some z)
    (hsize : i.size = 1) (hby : i.bytes = bytes) (hzs : z.cells.size = 1)
    (lo hi' : Nat) (v : Value) (n : Nat) (f : Nat → Value) (hown : OwnF w lo hi' e v n f)
    (u : Value) (m : Nat) (g : Nat → Value) (hx : Rd w u m g) (h1 : ∀ j, j < m → (g j).oneCell' = true) (h63 : n + m ≤ maxLen) (hbytes : (n + m) * bytes ≤ 140737488355328) {v' : Value} {w' : World}
    (hr : (Builtin.append_ #[t, t] ty #[v, u]).run P w = .ok v' w') : ∀ b, v'.ownBlock = some b → v.ownBlock = some b ∨ w.heap.size ≤ b := by
  obtain ⟨q, c, rfl, ⟨hmc, hcm⟩, hxc⟩ := hx
  have hsm : n + m ≤ 9223372036854775807 := by unfold maxLen at h63; omega
  by_cases hm : m = 0
  · subst hm
    obtain ⟨p, cap, rfl, hnc, _, _⟩ := hown.shape
    rw [run_append_none w t ty e i ht hi p q n cap c hnc] at hr
    injection hr with e1 e2
    subst e1
    exact fun b hb => .inl hb
  · obtain ⟨b, off, rfl, hc⟩ := hxc (by omega)
    have hnews : ∀ (j : Nat) (v : Value), ((List.range m).map g)[j]? = some v → w.cell? ((⟨b, off, none⟩ : Addr).add j) = some v := fun j x hx => by
      have hj : j < m := by
        rcases Nat.lt_or_ge j m with h | h
        · exact h
        · rw [List.getElem?_eq_none (by simpa using h)] at hx; cases hx
      simp [hj] at hx
      subst hx
      have hadd : (⟨b, off, none⟩ : Addr).add j = ⟨b, off + j, none⟩ := by unfold Addr.add; split <;> simp_all
      rw [hadd]
      exact hc j hj
    obtain ⟨xs, ho, hf⟩ := hown
    rcases ho.1.2 with ⟨rfl, rfl⟩ | ⟨gg, cap, cur, rfl, hbg, hg, hnc, hcm2, hcs, htake⟩
    · have hr2 := run_append_nil (P := P) w t ty e i z ht hi hz ⟨b, off, none⟩ m c ((List.range m).map g) (by simp [hsize]) hnews (by omega) (by omega) (by rw [hby]; simp only [Nat.zero_add] at hbytes; omega)
      rw [hr2] at hr
      injection hr with e1 e2
      subst e1
      intro b hb
      simp [Value.ownBlock] at hb
      exact .inr (by omega)
    · by_cases hroom : n + m ≤ cap
      · have hr2 := run_append_room (P := P) w t ty e i ht hi gg n cap cur hg ⟨b, off, none⟩ m c ((List.range m).map g) (by simp [hsize]) hnews (fun x hx => by
            simp only [List.mem_map, List.mem_range] at hx
            obtain ⟨j, hj, rfl⟩ := hx
            exact h1 j hj) hroom (by simp [hsize, hcs]; omega)
        rw [hr2] at hr
        injection hr with e1 e2
        subst e1
        exact fun b hb => .inl hb
      · have hr2 := run_append_grow (P := P) w t ty e i z ht hi hz ⟨gg, 0, none⟩ n cap xs (by rw [ho.len, hsize]) (ho.1.cells (g := gg) rfl) ⟨b, off, none⟩ m c ((List.range m).map g) (by simp [hsize]) hnews (by omega) (by omega) (growslice_fits (by omega) (by rw [hby]; exact hbytes))
        rw [hr2] at hr
        injection hr with e1 e2
        subst e1
        intro b hb
        simp [Value.ownBlock] at hb
        exact .inr (by omega)

/-- as wpList_append_F, with one fact more: where the block lies -/
theorem wpList_append_G {P : Program} {w : World} {ops : Array Oper} {rest : List Oper} {o : Oper} {a : Act} {Q : Exit → Act → World → Prop} (hgd : o.guard = none) (s x : Operand) (t : TypeId)
    (ho : o.op = .call { callee := .builtin .append, args := #[s, x], argTypes := #[t, t] })
    (e : TypeId) (z : Value) (bytes : Nat) (ht : P.underlying t = some (.slice e)) (hinfo : (P.info? e).map (fun i => (i.zero, i.size, i.bytes)) = some (some z, 1, bytes)) (hzs : z.cells.size = 1)
    (lo hi' : Nat) (v : Value) (n : Nat) (f : Nat → Value) (hs : a.eval s = v) (hown : OwnF w lo hi' e v n f) (hlo : lo ≤ w.heap.size) (hhi : hi' ≤ w.heap.size)
    (u : Value) (m : Nat) (g : Nat → Value) (hxu : a.eval x = u) (hx : Rd w u m g) (h1 : ∀ j, j < m → (g j).oneCell' = true) (h63 : n + m ≤ maxLen) (hbytes : (n + m) * bytes ≤ 140737488355328)
    (h : ∀ v' w', OwnF w' lo w'.heap.size e v' (n + m) (fun j => if j < n then f j else g (j - n)) → w.grownBy w' v.ownBlock → (∀ b, v'.ownBlock = some b → v.ownBlock = some b ∨ w.heap.size ≤ b) → wpList P ops Q rest (a.put o.dst v') w') :
    wpList P ops Q (o :: rest) a w := by
  refine wpList_plain hgd fun K hK' => ?_
  obtain ⟨i, hi, hz, hsz, hby⟩ := info_parts hinfo
  obtain ⟨v', w', hr, h2, h3⟩ := run_append_F (P := P) w t o.type e i z bytes ht hi hz hsz hby hzs lo hi' v n f hown hlo hhi u m g hx h1 h63 hbytes
  have h4 := run_append_where (P := P) w t o.type e i z bytes ht hi hz hsz hby hzs lo hi' v n f hown u m g hx h1 h63 hbytes hr
  unfold Oper.wp
  simp [execOp, ho, resolve, invoke, builtin, hs, hxu, hr, Result.andThen]
  exact hK' _ _ (h v' w' h2 h3 h4)

theorem Frm.of_drew {lo hi : Nat} {w w' : World} (h : Frm lo hi w.drew w') : Frm lo hi w w' := ⟨h.os, h.tape, h.output, h.size, h.block⟩
theorem below_of_drew {B : Nat} {w w' : World} (h : Below B w.drew w') : Below B w w' := ⟨h.os, h.tape, h.output, h.size, h.block⟩
/-- behind an append: a list of lists whose blocks are others stays -/
theorem OwnII.grown {Ts Ti : TypeId} {w w' : World} {lo hi : Nat} {v u : Value} {rows : List (List Int)} (h : OwnII Ts Ti w lo hi v rows) (hg : w.grownBy w' u.ownBlock) (hne : ∀ b, u.ownBlock = some b → b < lo ∨ hi ≤ b) : OwnII Ts Ti w' lo hi v rows :=
  h.keep fun k h1 h2 h3 => hg.block k h3 fun e => by have := hne k e.symm; omega

end Go.Proofs.Ytklpaannmdbmiaa

namespace Go.Proofs.Ytklpaannmdbmiaa
set_option linter.all false
open Go.RowKit

def fact : Nat → Nat
  | 0 => 1
  | n + 1 => (n + 1) * fact n
theorem fact_pos (n : Nat) : 1 ≤ fact n := by
  induction n with
  | zero => exact Nat.le_refl _
  | succ n ih => exact Nat.le_trans ih (Nat.le_mul_of_pos_left _ (Nat.succ_pos n))
theorem fact_le {a b : Nat} (h : a ≤ b) : fact a ≤ fact b := by
  induction h with
  | refl => exact Nat.le_refl _
  | step _ ih => exact Nat.le_trans ih (Nat.le_mul_of_pos_left _ (Nat.succ_pos _))

/-- the left-th number that is not in out is put behind it -/
def decGo (out : List Int) : Nat → Nat → Nat → List Int
  | 0, _, _ => out
  | f + 1, v, left => if (v : Int) ∈ out then decGo out f (v + 1) left else if left = 0 then out ++ [(v : Int)] else decGo out f (v + 1) (left - 1)
def decL (n : Nat) (c : List Nat) : List Int := c.foldl (fun out left => decGo out n 0 left) []
theorem decL_snoc (n : Nat) (c : List Nat) (x : Nat) : decL n (c ++ [x]) = decGo (decL n c) n 0 x := by simp [decL]

theorem decGo_len (out : List Int) (f v left : Nat) : (decGo out f v left).length ≤ out.length + 1 := by
  induction f generalizing v left with
  | zero => simp [decGo]
  | succ f ih =>
    unfold decGo
    split
    · exact ih _ _
    · split
      · simp
      · exact ih _ _
theorem decL_len (n : Nat) (c : List Nat) (k : Nat) : (decL n (c.take k)).length ≤ k := by
  induction k with
  | zero => simp [decL]
  | succ k ih =>
    by_cases h : k < c.length
    · have e : c.take (k + 1) = c.take k ++ [c[k]] := by rw [List.take_add_one, List.getElem?_eq_getElem h]; rfl
      rw [e, decL_snoc]
      exact Nat.le_trans (decGo_len _ _ _ _) (by omega)
    · rw [List.take_of_length_le (by omega)]
      rw [List.take_of_length_le (by omega)] at ih
      omega

set_option maxRecDepth 100000 in
set_option maxHeartbeats 2000000 in
theorem specDecode_any (v : Value) (c : List Nat) (w : World) (h : Ints w v (c.map Int.ofNat)) (hn : c.length ≤ 100) (hs : ∀ x ∈ c, x ≤ 1000000) :
    Calls Try.prog 34 #[v] w (RetI w (decL c.length c)) := by
  obtain ⟨p, cap, rfl, ⟨hx1, hx⟩, hxc⟩ := h
  rw [List.length_map] at *
  unfold maxLen at hx
  have Hxc := Lib.hid hxc
  have Hs := Lib.hid hs
  clear hxc hs
  go_enter Try.func34, Try.ntmps34
  go_wp2
  go_loopg [3, 4] c.length (fun g s3 i wr => ∃ k : Nat, k ≤ c.length ∧ g = c.length - k ∧ i = .int .i64 k ∧ Below w.heap.size w wr ∧ OwnI 3 wr w.heap.size wr.heap.size s3 (decL c.length (c.take k)))
  case atStart => exact ⟨0, Nat.zero_le _, rfl, rfl, below_alloc _ _, (OwnF.ints (xs := []) ((OwnF.made0 w _ _))).mono (Nat.le_refl _) (by simp)⟩
  case round =>
    obtain ⟨k, hk, rfl, rfl, hb, ho⟩ := hrel
    by_cases hlt : k < c.length
    · obtain ⟨b, off, rfl, hc⟩ := Hxc.out (by omega)
      have c1 := cell_below hb (hc k hlt)
      have e1 : iv (c.map Int.ofNat) k = .int .i64 (c.getD k 0 : Nat) := by simp [iv, List.getD_eq_getElem?_getD, hlt]
      rw [e1] at c1
      have hck : c.getD k 0 ≤ 1000000 := Hs.out _ (by simp [List.getD_eq_getElem?_getD, hlt])
      have e2 : decL c.length (c.take (k + 1)) = decGo (decL c.length (c.take k)) c.length 0 (c.getD k 0) := by
        rw [List.take_add_one, List.getElem?_eq_getElem hlt]
        simp only [Option.toList]
        rw [decL_snoc]
        simp [List.getD_eq_getElem?_getD, hlt]
      have hln := decL_len c.length c k
      generalize hX : c.getD k 0 = X at c1 hck e2
      generalize hO : decL c.length (c.take k) = out at ho e2 hln
      have E2 := Lib.hid e2
      have Ho := Lib.hid ho
      obtain ⟨p3, k3, rfl, _, _⟩ := ho.shape
      clear hc e1 e2 hX hO ho
      obtain ⟨wo, rfl⟩ : ∃ x : World, x = wr := ⟨_, rfl⟩
      go_wp2
      go_loopg [3, 5, 6] c.length (fun g s3 s5 s6 wr => ∃ left v : Nat, v ≤ c.length ∧ left ≤ 1000000 ∧ g = c.length - v ∧ s3 = .slice p3 out.length k3 ∧ s5 = .int .i64 left ∧ s6 = .int .i64 v ∧ Qt wo wr ∧ Hid (decGo out (c.length - v) v left = decGo out c.length 0 X))
      case atStart => exact ⟨X, 0, Nat.zero_le _, hck, rfl, rfl, rfl, rfl, Qt.refl _, rfl⟩
      case round =>
        obtain ⟨left, v, hv, hleft, rfl, rfl, rfl, rfl, hq, hg⟩ := hrel
        by_cases hvlt : v < c.length
        · by_cases hmem : (v : Int) ∈ out
          · have hc := l1Has_any _ out v wr (Ho.out.ints.qt hq)
            rw [decide_eq_true hmem] at hc
            have Hc := Lib.hid hc
            have hg2 : decGo out (c.length - (v + 1)) (v + 1) left = decGo out c.length 0 X := by
              rw [← hg.out, show c.length - v = (c.length - (v + 1)) + 1 by omega]
              simp [decGo, hmem]
            have Hg2 := Lib.hid hg2
            clear hc hg hg2 hmem
            go_wp2_with fail
            refine Hc.out.mono ?_
            rintro e w1 ⟨rfl, hq1⟩
            go_wp2_with fail
            go_roundg (c.length - (v + 1))
            case measure => omega
            case rel => exact ⟨left, v + 1, by omega, hleft, rfl, rfl, rfl, by go_num, hq.trans hq1, Hg2.out⟩
          · have hc := l1Has_any _ out v wr (Ho.out.ints.qt hq)
            rw [decide_eq_false hmem] at hc
            have Hc := Lib.hid hc
            by_cases hl0 : left = 0
            · subst hl0
              have hg2 : out ++ [(v : Int)] = decGo out c.length 0 X := by
                rw [← hg.out, show c.length - v = (c.length - (v + 1)) + 1 by omega]
                simp [decGo, hmem]
              have Hg2 := Lib.hid hg2
              clear hc hg hg2 hmem
              go_wp2_with fail
              refine Hc.out.mono ?_
              rintro e w1 ⟨rfl, hq1⟩
              have Hq1 := Lib.hid (hq.trans hq1)
              have Ho1 := Lib.hid (Ho.out.below (Hq1.out.below _))
              have Hb1 := Lib.hid (show out.length + 1 ≤ maxLen by unfold maxLen; omega)
              have Hb2 := Lib.hid (show (out.length + 1) * 8 ≤ 140737488355328 by omega)
              have Hsz : Hid (w1.heap.size = wo.heap.size) := by unfold Hid; rw [Hq1.out.size]
              have hsw := hb.size
              go_wp2_with (at_builtin; go_must (refine wpList_append_F rfl (.tmp 29) (.tmp 31) 24 rfl 3 (.int .i64 0) 8 Try.underlying24 info_int rfl w.heap.size wo.heap.size _ out.length (iv out) rfl ((Ho1.out.below (below_alloc _ _)).fn) (by have := Hsz.out; simp; omega) (by have := Hsz.out; simp; omega) _ _ _ rfl (rd_one _ _ _ rfl) (fun j _ => rfl) Hb1.out Hb2.out ?_; intro v' w' ho' hg'))
              have hsw' := hg'.size
              simp only [size_alloc] at hsw'
              have hsz := Hsz.out
              have hblow : Below w.heap.size wo w' := (Hq1.out.below _).trans (((below_alloc w1 _).mono (by omega)).trans (grownBy_below hg' Ho1.out.fn.blocks (Nat.le_refl _) (by simp; omega)))
              go_roundg (c.length - (k + 1))
              case measure => omega
              case rel =>
                refine ⟨k + 1, by omega, rfl, by go_num, hb.trans hblow, ?_⟩
                rw [E2.out, ← Hg2.out]
                refine OwnF.ints ?_
                rw [List.length_append]
                exact ho'.congr fun j hj => by
                  by_cases h : j < out.length
                  · simp [h, iv, List.getD_eq_getElem?_getD, List.getElem?_append_left h]
                  · have : j = out.length := by omega
                    subst this
                    simp [iv, List.getD_eq_getElem?_getD]
            · have hg2 : decGo out (c.length - (v + 1)) (v + 1) (left - 1) = decGo out c.length 0 X := by
                rw [← hg.out, show c.length - v = (c.length - (v + 1)) + 1 by omega]
                simp [decGo, hmem, hl0]
              have Hg2 := Lib.hid hg2
              clear hc hg hg2 hmem
              go_wp2_with fail
              refine Hc.out.mono ?_
              rintro e w1 ⟨rfl, hq1⟩
              go_wp2_with fail
              go_roundg (c.length - (v + 1))
              case measure => omega
              case rel => exact ⟨left - 1, v + 1, by omega, by omega, rfl, rfl, by go_num, by go_num, hq.trans hq1, Hg2.out⟩
        · have hv2 : v = c.length := by omega
          subst hv2
          have hg2 : out = decGo out c.length 0 X := by
            rw [← hg.out, Nat.sub_self]; rfl
          have Hg2 := Lib.hid hg2
          clear hg hg2
          go_wp2_with fail
          go_roundg (c.length - (k + 1))
          case measure => omega
          case rel =>
            refine ⟨k + 1, by omega, rfl, by go_num, hb.trans (hq.below _), ?_⟩
            rw [E2.out, ← Hg2.out, hq.size]
            exact Ho.out.below (hq.below _)
    · go_wp2
      go_ret
      obtain rfl : k = c.length := by omega
      rw [List.take_length] at ho
      exact ⟨_, rfl, ho, hb⟩

end Go.Proofs.Ytklpaannmdbmiaa

namespace Go.Proofs.Ytklpaannmdbmiaa
set_option linter.all false
open Go.RowKit

/-- x divided by 1, 2, .., j -/
def restAt (x : Nat) : Nat → Nat
  | 0 => x
  | j + 1 => restAt x j / (j + 1)
def digits (n x : Nat) : List Nat := (List.range n).map fun i => restAt x (n - 1 - i) % (n - i)
def permsL (n : Nat) : List (List Int) := (List.range (fact n)).map fun x => decL n (digits n x)
theorem restAt_le (x j : Nat) : restAt x j ≤ x := by
  induction j with
  | zero => exact Nat.le_refl _
  | succ j ih => exact Nat.le_trans (Nat.div_le_self _ _) ih
theorem digits_getD {n x t : Nat} (h : t < n) : (digits n x).getD t 0 = restAt x (n - 1 - t) % (n - t) := by simp [digits, List.getD_eq_getElem?_getD, h]
theorem digits_le (n x : Nat) : ∀ c ∈ digits n x, c ≤ x := by
  intro c hc
  simp only [digits, List.mem_map, List.mem_range] at hc
  obtain ⟨i, _, rfl⟩ := hc
  exact Nat.le_trans (Nat.mod_le _ _) (restAt_le _ _)
theorem permsL_take {n x : Nat} (h : x < fact n) : (permsL n).take (x + 1) = (permsL n).take x ++ [decL n (digits n x)] := by
  rw [List.take_add_one]
  congr 1
  simp [permsL, h]
theorem digits_length (n x : Nat) : (digits n x).length = n := by simp [digits]

theorem ownII_nil (w : World) (lo hi : Nat) : OwnII 24 3 w lo hi (.slice none 0 0) [] :=
  ⟨fun _ => undef, OwnF.nil _ _ _ _ _, fun i hi => absurd hi (Nat.not_lt_zero _), fun i j _ hj => absurd hj (Nat.not_lt_zero _)⟩
def allPermsL (N : Int) : List (List Int) := if 1 ≤ N ∧ N ≤ 5 then permsL N.toNat else []

end Go.Proofs.Ytklpaannmdbmiaa

namespace Go.Proofs.Ytklpaannmdbmiaa
set_option linter.all false
open Go.RowKit

/-- rows of their own (lo .. mid-1, then mid .. hi-1) stand one behind the other in a slice that an append made -/
theorem OwnII.join {Ts Ti : TypeId} {w w' : World} {lo mid hi : Nat} {v v' : Value} {rows rows2 : List (List Int)} {f g : Nat → Value}
    (g1 : OwnF w lo mid Ts v rows.length f) (g2 : ∀ i, i < rows.length → OwnI Ti w lo mid (f i) (rows.getD i []))
    (g3 : ∀ i j, i < j → j < rows.length → ∀ k, (f i).ownBlock = some k → (f j).ownBlock ≠ some k)
    (h2 : ∀ i, i < rows2.length → OwnI Ti w mid hi (g i) (rows2.getD i []))
    (h3 : ∀ i j, i < j → j < rows2.length → ∀ k, (g i).ownBlock = some k → (g j).ownBlock ≠ some k)
    (hm : lo ≤ mid) (hmh : mid ≤ hi) (hT : Ts ≠ Ti) (hg : w.grownBy w' v.ownBlock) (hsz : hi ≤ w'.heap.size)
    (hv : OwnF w' lo w'.heap.size Ts v' (rows.length + rows2.length) (fun j => if j < rows.length then f j else g (j - rows.length))) :
    OwnII Ts Ti w' lo w'.heap.size v' (rows ++ rows2) := by
  have hrow : ∀ (y : Value) (ys : List Int) (lo1 hi1 : Nat), OwnI Ti w lo1 hi1 y ys → OwnI Ti w' lo1 hi1 y ys := fun y ys lo1 hi1 hy =>
    ⟨ownsRow_of_block hy.1 fun k hk => hg.block k (Own.block hy hk).2.2 fun e => own_types g1 hy hT e.symm hk, hy.2⟩
  refine ⟨_, by rw [List.length_append]; exact hv, fun i hi => ?_, fun i j hij hj k hk => ?_⟩
  · rw [List.length_append] at hi
    by_cases hlt : i < rows.length
    · have e : (rows ++ rows2).getD i [] = rows.getD i [] := by simp [List.getD_eq_getElem?_getD, List.getElem?_append_left hlt]
      simp only [hlt, if_true]
      rw [e]
      exact (hrow _ _ _ _ (g2 i hlt)).mono (Nat.le_refl _) (by omega)
    · have e : (rows ++ rows2).getD i [] = rows2.getD (i - rows.length) [] := by
        simp [List.getD_eq_getElem?_getD, List.getElem?_append_right (Nat.le_of_not_lt hlt)]
      simp only [hlt, if_false]
      rw [e]
      exact (hrow _ _ _ _ (h2 _ (by omega))).mono hm hsz
  · rw [List.length_append] at hj
    by_cases hlt : j < rows.length
    · simp only [hlt, if_true]
      simp only [show i < rows.length by omega, if_true] at hk
      exact g3 i j hij hlt k hk
    · simp only [hlt, if_false]
      by_cases hil : i < rows.length
      · simp only [hil, if_true] at hk
        intro e
        have h5 := (Own.block (g2 i hil) hk).2.1
        have h6 := (Own.block (h2 _ (by omega)) e).1
        omega
      · simp only [hil, if_false] at hk
        exact h3 _ _ (by omega) (by omega) k hk

theorem OwnI.snoc1 {T : TypeId} {w : World} {lo hi : Nat} {v : Value} {out : List Int} {x : Int} (h : OwnF w lo hi T v (out.length + 1) (fun j => if j < out.length then iv out j else .int .i64 x)) : OwnI T w lo hi v (out ++ [x]) := by
  refine OwnF.ints ?_
  rw [List.length_append]
  exact h.congr fun j hj => by
    by_cases h : j < out.length
    · simp [h, iv, List.getD_eq_getElem?_getD, List.getElem?_append_left h]
    · have : j = out.length := by omega
      subst this
      simp [iv, List.getD_eq_getElem?_getD]

theorem flatMap_len {α : Type} (g : Nat → List α) (b : Nat) (h : ∀ x, (g x).length ≤ b) : ∀ n, ((List.range n).flatMap g).length ≤ n * b
  | 0 => by simp
  | n + 1 => by
    rw [List.range_succ, List.flatMap_append, List.length_append, Nat.succ_mul]
    have := flatMap_len g b h n
    have h2 := h n
    simp only [List.flatMap_cons, List.flatMap_nil, List.append_nil]
    omega

theorem flatMap_snoc {α : Type} (g : Nat → List α) (n : Nat) : (List.range (n + 1)).flatMap g = (List.range n).flatMap g ++ g n := by
  rw [List.range_succ, List.flatMap_append]
  simp

end Go.Proofs.Ytklpaannmdbmiaa

namespace Go.Proofs.Ytklpaannmdbmiaa
set_option linter.all false
open Go.RowKit

/-- all lists of numbers below n that are chosen without repeating, behind those that are chosen -/
def allL (n : Nat) : Nat → List Int → List (List Int)
  | 0, ch => [ch]
  | f + 1, ch => (List.range n).flatMap fun (x : Nat) => if (x : Int) ∈ ch then [] else allL n f (ch ++ [(x : Int)])

theorem allL_len (n : Nat) : ∀ f ch, (allL n f ch).length ≤ n ^ f
  | 0, ch => by simp [allL]
  | f + 1, ch => by
    rw [allL, Nat.pow_succ, Nat.mul_comm]
    refine flatMap_len _ _ (fun x => ?_) n
    split
    · simp
    · exact allL_len n f _

set_option maxRecDepth 100000 in
theorem allL_perms (n : Nat) (h1 : 1 ≤ n) (h5 : n ≤ 5) : allL n n [] = permsL n := by
  have : n = 1 ∨ n = 2 ∨ n = 3 ∨ n = 4 ∨ n = 5 := by omega
  rcases this with rfl | rfl | rfl | rfl | rfl <;> decide +kernel

end Go.Proofs.Ytklpaannmdbmiaa

namespace Go.Proofs.Ytklpaannmdbmiaa
set_option linter.all false
open Go.RowKit

/-- there is a number for each place -/
def nmOk (N : Int) (y : List Int) : Bool := decide (1 ≤ N) && decide (N ≤ 5) && decide ((y.length : Int) = N) && decide (∀ x ∈ y, -9 ≤ x ∧ x ≤ 9)
def shiftB (N : Int) (y : List Int) : Bool := decide ((y.length : Int) = N) && decide (∀ x ∈ y, -9 ≤ x ∧ x ≤ 9)
/-- the numbers are different -/
def apOk (N : Int) (y : List Int) : Bool := nmOk N y && decide (N ≤ 4) && decide y.Nodup
def mostB (vs : List Int) : Bool := decide (∀ x ∈ vs, -1000000000000 ≤ x ∧ x ≤ 1000000000000)
/-- a list with the numbers at two places exchanged -/
def swapL (w : List Int) (i j : Nat) : List Int := (w.set i (w.getD j 0)).set j (w.getD i 0)
theorem swapL_length (w : List Int) (i j : Nat) : (swapL w i j).length = w.length := by simp [swapL]
theorem swapL_getD {w : List Int} {i j t : Nat} (hi : i < w.length) (hj : j < w.length) : (swapL w i j).getD t 0 = if t = j then w.getD i 0 else if t = i then w.getD j 0 else w.getD t 0 := by
  unfold swapL
  by_cases e1 : t = j
  · subst e1
    rw [if_pos rfl, List.getD_eq_getElem?_getD, List.getElem?_set_self (by simpa using hj)]
    rfl
  · rw [if_neg e1, List.getD_eq_getElem?_getD, List.getElem?_set_ne (fun h => e1 h.symm)]
    by_cases e2 : t = i
    · subst e2
      rw [if_pos rfl, List.getElem?_set_self hi]
      rfl
    · rw [if_neg e2, List.getElem?_set_ne (fun h => e2 h.symm), ← List.getD_eq_getElem?_getD]
theorem swapL_comm {w : List Int} {i j : Nat} (hi : i < w.length) (hj : j < w.length) : swapL w i j = swapL w j i := by
  refine getD_eq_list (by rw [swapL_length, swapL_length]) fun t _ => ?_
  rw [swapL_getD hi hj, swapL_getD hj hi]
  by_cases e1 : t = j
  · by_cases e2 : t = i
    · rw [if_pos e1, if_pos e2, ← e1, ← e2]
    · rw [if_pos e1, if_neg e2, if_pos e1]
  · by_cases e2 : t = i
    · rw [if_neg e1, if_pos e2, if_pos e2]
    · rw [if_neg e1, if_neg e2, if_neg e2, if_neg e1]
/-- the code of a list, and its place among the permutations -/
def cdK (xs : List Int) (i t : Nat) : Nat := ((List.range t).filter fun (s : Nat) => decide (xs.getD (i + 1 + s) 0 < xs.getD i 0)).length
def cdA (xs : List Int) (i : Nat) : Nat := cdK xs i (xs.length - (i + 1))
def plA (xs : List Int) : Nat → Nat
  | 0 => 0
  | i + 1 => plA xs i * (xs.length - i) + cdA xs i
def plN (xs : List Int) : Nat := plA xs xs.length
/-- one list comes before another one -/
def ltL : List Int → List Int → Bool
  | [], [] => false
  | [], _ :: _ => true
  | _ :: _, [] => false
  | x :: xs, y :: ys => if x < y then true else if y < x then false else ltL xs ys
def gkChk (n : Nat) : Bool :=
  (List.range (fact n)).all fun x => decide (((permsL n).getD x []).length = n) && ((permsL n).getD x []).all (fun v => decide (0 ≤ v ∧ v < (n : Int))) && decide (((permsL n).getD x []).Nodup) &&
    (List.range n).all (fun j => (List.range j).all fun i => decide (plN (swapL ((permsL n).getD x []) i j) < fact n) && decide ((permsL n).getD (plN (swapL ((permsL n).getD x []) i j)) [] = swapL ((permsL n).getD x []) i j)) &&
    (List.range (fact n)).all fun z => decide (ltL ((permsL n).getD x []) ((permsL n).getD z []) = decide (x < z))
set_option maxRecDepth 100000 in
theorem gk_all : gkChk 1 = true ∧ gkChk 2 = true ∧ gkChk 3 = true ∧ gkChk 4 = true := by decide +kernel
structure GkN (n : Nat) : Prop where
  len : ∀ x, x < fact n → ((permsL n).getD x []).length = n
  rng : ∀ x t, x < fact n → t < n → ∃ m : Nat, ((permsL n).getD x []).getD t 0 = (m : Int) ∧ m < n
  inj : ∀ x s t, x < fact n → s < t → t < n → ((permsL n).getD x []).getD s 0 ≠ ((permsL n).getD x []).getD t 0
  plc : ∀ x i j, x < fact n → i < j → j < n → plN (swapL ((permsL n).getD x []) i j) < fact n ∧ (permsL n).getD (plN (swapL ((permsL n).getD x []) i j)) [] = swapL ((permsL n).getD x []) i j
  lt : ∀ x z, x < fact n → z < fact n → ltL ((permsL n).getD x []) ((permsL n).getD z []) = decide (x < z)
theorem gkN {n : Nat} (h1 : 1 ≤ n) (h4 : n ≤ 4) : GkN n := by
  have hc : gkChk n = true := by
    have : n = 1 ∨ n = 2 ∨ n = 3 ∨ n = 4 := by omega
    rcases this with rfl | rfl | rfl | rfl
    · exact gk_all.1
    · exact gk_all.2.1
    · exact gk_all.2.2.1
    · exact gk_all.2.2.2
  unfold gkChk at hc
  simp only [List.all_eq_true, List.mem_range, Bool.and_eq_true, decide_eq_true_eq] at hc
  refine ⟨fun x hx => (hc x hx).1.1.1.1, fun x t hx ht => ?_, fun x s t hx hs ht e => ?_, fun x i j hx hi hj => (hc x hx).1.2 j hj i hi, fun x z hx hz => (hc x hx).2 z hz⟩
  · have hl := (hc x hx).1.1.1.1
    have := (hc x hx).1.1.1.2 _ (getD_mem (show t < ((permsL n).getD x []).length by omega))
    exact ⟨(((permsL n).getD x []).getD t 0).toNat, by omega, by omega⟩
  · have hl := (hc x hx).1.1.1.1
    have hn := (hc x hx).1.1.2
    have a : s < ((permsL n).getD x []).length := by omega
    have b : t < ((permsL n).getD x []).length := by omega
    rw [getD_lt a, getD_lt b] at e
    exact List.pairwise_iff_getElem.1 hn s t a b hs e

/-- the condition at one place and two numbers -/
def gkAt (n : Nat) (vs y : List Int) (x i j : Nat) : Prop :=
  (vs.getD x 0 - vs.getD (plN (swapL ((permsL n).getD x []) i j)) 0).tmod (y.getD (((permsL n).getD x []).getD i 0).toNat 0 - y.getD (((permsL n).getD x []).getD j 0).toNat 0) = 0
/-- what IsGkm says -/
def GkIs (N : Int) (vs y : List Int) (b : Bool) : Prop :=
  b = true ↔ apOk N y = true ∧ vs.length = fact N.toNat ∧ mostB vs = true ∧ ∀ x i j, x < fact N.toNat → i < j → j < N.toNat → gkAt N.toNat vs y x i j
theorem GkIs.one {N : Int} {vs y : List Int} {b b' : Bool} (h : GkIs N vs y b) (h' : GkIs N vs y b') : b = b' := by
  unfold GkIs at h h'
  have e : b = true ↔ b' = true := h.trans h'.symm
  cases b <;> cases b' <;> simp_all
theorem GkIs.eps {N : Int} {vs y : List Int} {b : Bool} (h : GkIs N vs y b) : b = Classical.epsilon (GkIs N vs y) := h.one (Classical.epsilon_spec ⟨b, h⟩)
theorem GkIs.no1 {N : Int} {vs y : List Int} (h : apOk N y = false) : GkIs N vs y false := ⟨fun e => (by cases e), fun e => by rw [h] at e; cases e.1⟩
theorem GkIs.no2 {N : Int} {vs y : List Int} (h : ¬ vs.length = fact N.toNat) : GkIs N vs y false := ⟨fun e => (by cases e), fun e => absurd e.2.1 h⟩
theorem GkIs.no3 {N : Int} {vs y : List Int} (h : mostB vs = false) : GkIs N vs y false := ⟨fun e => (by cases e), fun e => by have := e.2.2.1; rw [h] at this; cases this⟩
theorem GkIs.no4 {N : Int} {vs y : List Int} {x i j : Nat} (h1 : x < fact N.toNat) (h2 : i < j) (h3 : j < N.toNat) (h : ¬ gkAt N.toNat vs y x i j) : GkIs N vs y false := ⟨fun e => (by cases e), fun e => absurd (e.2.2.2 x i j h1 h2 h3) h⟩

end Go.Proofs.Ytklpaannmdbmiaa
