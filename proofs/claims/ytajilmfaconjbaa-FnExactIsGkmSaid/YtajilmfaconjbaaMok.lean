/-
  MatrixOk, the reference's and the program's: both answer alike.
-/
import Derived.Test.YtajilmfaconjbaaPmat
namespace Go.Proofs.Ytajilmfaconjbaa
set_option linter.all false
open Go.RowKit

/-- a matrix: one of the four primes, from 0 to 7 rows of from 1 to 7 numbers, each from 0 on and below the prime -/
def mxOk (P R C : Int) (D : List Int) : Bool :=
  decide (primeOk P = true ∧ (0 ≤ R ∧ R ≤ 7) ∧ (1 ≤ C ∧ C ≤ 7) ∧ (D.length : Int) = R * C ∧ ∀ x ∈ D, 0 ≤ x ∧ x < P)

theorem mxOk_no1 {P R C : Int} {D : List Int} (h : primeOk P = false) : mxOk P R C D = false := by
  simp only [mxOk, decide_eq_false_iff_not]; rintro ⟨h1, _⟩; rw [h] at h1; cases h1
theorem mxOk_no2 {P R C : Int} {D : List Int} (h : ¬ (0 ≤ R ∧ R ≤ 7)) : mxOk P R C D = false := by
  simp only [mxOk, decide_eq_false_iff_not]; exact fun e => h e.2.1
theorem mxOk_no3 {P R C : Int} {D : List Int} (h : ¬ (1 ≤ C ∧ C ≤ 7)) : mxOk P R C D = false := by
  simp only [mxOk, decide_eq_false_iff_not]; exact fun e => h e.2.2.1
theorem mxOk_no4 {P R C : Int} {D : List Int} (h : ¬ (D.length : Int) = R * C) : mxOk P R C D = false := by
  simp only [mxOk, decide_eq_false_iff_not]; exact fun e => h e.2.2.2.1
theorem mxOk_no5 {P R C : Int} {D : List Int} {k : Nat} (hk : k < D.length) (h : ¬ (0 ≤ D.getD k 0 ∧ D.getD k 0 < P)) : mxOk P R C D = false := by
  simp only [mxOk, decide_eq_false_iff_not]; exact fun e => h (e.2.2.2.2 _ (getD_mem hk))
theorem mxOk_yes {P R C : Int} {D : List Int} (h1 : primeOk P = true) (h2 : 0 ≤ R ∧ R ≤ 7) (h3 : 1 ≤ C ∧ C ≤ 7) (h4 : (D.length : Int) = R * C) (h5 : ∀ j, j < D.length → 0 ≤ D.getD j 0 ∧ D.getD j 0 < P) : mxOk P R C D = true := by
  simp only [mxOk, decide_eq_true_eq]
  refine ⟨h1, h2, h3, h4, fun x hx => ?_⟩
  obtain ⟨j, hj, rfl⟩ := List.mem_iff_getElem.1 hx
  have := h5 j hj
  rwa [getD_lt hj] at this
theorem primeOk_range {P : Int} (h : primeOk P = true) : 2 ≤ P ∧ P ≤ 7 := by
  have := of_decide_eq_true h
  omega

set_option maxRecDepth 100000 in
set_option maxHeartbeats 1000000 in
theorem implMatrixOk_any (P R C : Int) (d : Value) (D : List Int) (w : World) (h : Ints w d D) :
    Calls Try.prog 44 #[.agg #[.int .i64 P, .int .i64 R, .int .i64 C, d]] w fun e w' => e = .returned (.bool (mxOk P R C D)) ∧ Below w.heap.size w w' := by
  have hI := Lib.hid h
  obtain ⟨p, cap, rfl, ⟨hx1, hx2⟩, hxc⟩ := h
  have Hxc := Lib.hid hxc
  clear hxc
  unfold maxLen at hx2
  cases hp : primeOk P with
  | false =>
    rw [mxOk_no1 hp]
    have Hp := Lib.hid hp
    clear hp
    go_enter Try.func44, Try.ntmps44
    go_wp2_with (go_at_call 39; refine (isPrime_b _ _ Hp.out _).mono ?_; rintro e w' ⟨rfl, rfl⟩)
    go_ret
    exact ⟨rfl, below_alloc _ _⟩
  | true =>
    have Hp := Lib.hid hp
    clear hp
    by_cases hR : 0 ≤ R ∧ R ≤ 7
    case neg =>
      rw [mxOk_no2 hR]
      by_cases hneg : R < 0
      · clear hR
        go_enter Try.func44, Try.ntmps44
        go_wp2_with (go_at_call 39; refine (isPrime_b _ _ Hp.out _).mono ?_; rintro e w' ⟨rfl, rfl⟩)
        go_ret
        exact ⟨rfl, below_alloc _ _⟩
      · have h7 : 7 < R := by omega
        clear hR
        go_enter Try.func44, Try.ntmps44
        go_wp2_with (go_at_call 39; refine (isPrime_b _ _ Hp.out _).mono ?_; rintro e w' ⟨rfl, rfl⟩)
        go_ret
        exact ⟨rfl, below_alloc _ _⟩
    by_cases hC : 1 ≤ C ∧ C ≤ 7
    case neg =>
      rw [mxOk_no3 hC]
      obtain ⟨hR1, hR2⟩ := hR
      have hR1' : ¬ R < 0 := by omega
      have hR2' : ¬ 7 < R := by omega
      by_cases hneg : C < 1
      · clear hC
        go_enter Try.func44, Try.ntmps44
        go_wp2_with (go_at_call 39; refine (isPrime_b _ _ Hp.out _).mono ?_; rintro e w' ⟨rfl, rfl⟩)
        go_ret
        exact ⟨rfl, below_alloc _ _⟩
      · have h7 : 7 < C := by omega
        clear hC
        go_enter Try.func44, Try.ntmps44
        go_wp2_with (go_at_call 39; refine (isPrime_b _ _ Hp.out _).mono ?_; rintro e w' ⟨rfl, rfl⟩)
        go_ret
        exact ⟨rfl, below_alloc _ _⟩
    have hR' := hR
    have hC' := hC
    obtain ⟨r, rfl⟩ := Int.eq_ofNat_of_zero_le hR.1
    obtain ⟨c, rfl⟩ := Int.eq_ofNat_of_zero_le (show (0 : Int) ≤ C by omega)
    have hrc : r * c ≤ 7 * 7 := Nat.mul_le_mul (by omega) (by omega)
    obtain ⟨N, hN, hwr, hwk⟩ := mul_named r c (by omega)
    have HR := Lib.hid hR'
    have HC := Lib.hid hC'
    have Hwr := Lib.hid hwr
    have Hwk := Lib.hid hwk
    have t1 : decide ((r : Int) < 0) = false := decide_eq_false (by omega)
    have t2 : decide (7 < (r : Int)) = false := by simp; omega
    have t3 : decide ((c : Int) < 1) = false := by simp; omega
    have t4 : decide (7 < (c : Int)) = false := by simp; omega
    clear hwr hwk hR hC hR' hC'
    have hNi : (N : Int) = (r : Int) * (c : Int) := by rw [hN]; exact Int.natCast_mul r c
    by_cases hl : D.length = N
    case neg =>
      rw [mxOk_no4 (by rw [← hNi]; omega)]
      have hl1 : ((D.length : Int) != (N : Int)) = true := by simp; omega
      have hwr := Hwr.out
      clear hl hN hNi hrc
      go_enter Try.func44, Try.ntmps44
      go_wp2_with (go_at_call 39; refine (isPrime_b _ _ Hp.out _).mono ?_; rintro e w' ⟨rfl, rfl⟩)
      go_ret
      exact ⟨rfl, below_alloc _ _⟩
    have hl1 : ((D.length : Int) != (N : Int)) = false := by simp; omega
    have Hl := Lib.hid hl
    have HNi := Lib.hid hNi
    have hwr := Hwr.out
    have hN49 : D.length ≤ 49 := by omega
    clear hl hN hNi hrc
    have Hp2 := Lib.hid (primeOk_range Hp.out)
    go_enter Try.func44, Try.ntmps44
    go_wp2_with (go_at_call 39; refine (isPrime_b _ _ Hp.out _).mono ?_; rintro e w' ⟨rfl, rfl⟩)
    clear hwr hl1 t1 t2 t3 t4
    go_loopg [43] D.length (fun g i wr => ∃ k : Nat, k ≤ D.length ∧ g = D.length - k ∧ i = .int .i64 k ∧ wr = (w.alloc (.cells #[.int .i64 P, .int .i64 r, .int .i64 c, .slice p D.length cap] 29)) ∧ Hid (∀ j, j < k → 0 ≤ D.getD j 0 ∧ D.getD j 0 < P))
    case atStart => exact ⟨0, Nat.zero_le _, rfl, rfl, rfl, fun j hj => absurd hj (Nat.not_lt_zero _)⟩
    case round =>
      obtain ⟨k, hk, rfl, rfl, hq, hp⟩ := hrel
      have hq' : Qt (w.alloc (.cells #[.int .i64 P, .int .i64 r, .int .i64 c, .slice p D.length cap] 29)) wr := hq ▸ Qt.refl _
      have Hq := Lib.hid hq
      clear hq
      obtain ⟨c0, c1, c2, c3, cf, hz⟩ := blk4 (blk_later (heap_alloc_top w _) (hq'.below _))
      by_cases hlt : k < D.length
      · obtain ⟨b, off, rfl, hc⟩ := Hxc.out (by omega)
        have c4 : wr.cell? ⟨b, off + k, none⟩ = some (.int .i64 (D.getD k 0)) :=
          hq'.cell ((below_alloc w _).cell (p := ⟨b, off + k, none⟩) (World.block_lt_of_cell? _ _ (hc k hlt)) ▸ hc k hlt)
        clear hc
        by_cases hin : 0 ≤ D.getD k 0 ∧ D.getD k 0 < P
        · have Hin := Lib.hid hin
          have hge0 := getD_lt hlt
          have hd1 : ¬ D[k] < 0 := by omega
          have hd2 : ¬ P ≤ D[k] := by omega
          clear hin hge0
          go_wp2_with fail
          go_roundg (D.length - (k + 1))
          case measure => omega
          case rel =>
            refine ⟨k + 1, by omega, rfl, by go_num, Hq.out, fun j hj => ?_⟩
            by_cases e : j = k
            · subst e; exact Hin.out
            · exact hp.out j (by omega)
        · have Hin := Lib.hid hin
          have hge0 := getD_lt hlt
          by_cases hneg : D[k] < 0
          · clear hin hge0
            go_wp2_with fail
            go_ret
            exact ⟨ret_bool (mxOk_no5 hlt Hin.out).symm, (below_alloc w _).trans (hq'.below _)⟩
          · have hge : P ≤ D[k] := by omega
            clear hin hge0
            go_wp2_with fail
            go_ret
            exact ⟨ret_bool (mxOk_no5 hlt Hin.out).symm, (below_alloc w _).trans (hq'.below _)⟩
      · go_wp2_with fail
        go_ret
        exact ⟨ret_bool (mxOk_yes Hp.out HR.out HC.out (by rw [Hl.out]; exact HNi.out) (fun j hj => hp.out j (by omega))).symm, (below_alloc w _).trans (hq'.below _)⟩

end Go.Proofs.Ytajilmfaconjbaa
