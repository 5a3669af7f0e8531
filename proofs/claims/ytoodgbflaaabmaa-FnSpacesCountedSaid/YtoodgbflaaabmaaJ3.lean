/-
  PermMatrix, the reference's and the program's: both give the matrix with 1 where the permutation says.
  MatrixOk, the reference's and the program's: both answer alike.
  slices.Clone at []int; the rows of a matrix; a multiple of a row added to another one.
  addRow: a multiple of a row is added to another one, in it itself.
  l7At: the number at a place of a matrix.
-/
import Derived.Test.YtoodgbflaaabmaaJ1
import Derived.Test.YtoodgbflaaabmaaJ2
import Derived.StillTailTactics
namespace Go.Proofs.Ytoodgbflaaabmaa
set_option linter.all false
open Go.RowKit

def primeOk (p : Int) : Bool := decide (p = 2 ∨ p = 3 ∨ p = 5 ∨ p = 7)

set_option maxHeartbeats 400000 in
theorem l7Prime_any (p : Int) (w : World) :
    Calls Try.prog 96 #[.int .i64 p] w fun e w' => e = .returned (.bool (primeOk p)) ∧ w = w' := by
  by_cases h2 : p = 2
  · subst h2
    go_enter Try.func96, Try.ntmps96
    go_wp2
    go_ret
    exact ⟨rfl, rfl⟩
  by_cases h3 : p = 3
  · subst h3
    go_enter Try.func96, Try.ntmps96
    go_wp2
    go_ret
    exact ⟨rfl, rfl⟩
  by_cases h5 : p = 5
  · subst h5
    go_enter Try.func96, Try.ntmps96
    go_wp2
    go_ret
    exact ⟨rfl, rfl⟩
  by_cases h7 : p = 7
  · subst h7
    go_enter Try.func96, Try.ntmps96
    go_wp2
    go_ret
    exact ⟨rfl, rfl⟩
  · have e2 : (p == 2) = false := by simp [h2]
    have e3 : (p == 3) = false := by simp [h3]
    have e5 : (p == 5) = false := by simp [h5]
    have e7 : (p == 7) = false := by simp [h7]
    go_enter Try.func96, Try.ntmps96
    go_wp2
    go_ret
    exact ⟨ret_bool (by simp [primeOk, h2, h3, h5, h7]), rfl⟩

theorem info_mx : (Try.prog.info? 34).map (fun i => (i.zero, i.size, i.bytes)) = some (some (.agg #[.int .i64 0, .int .i64 0, .int .i64 0, .slice none 0 0]), 4, 48) := by kernel_rfl

set_option maxRecDepth 100000 in
set_option maxHeartbeats 1000000 in
theorem l7Perm_any (p : Int) (v : Value) (xs : List Int) (w : World) (h : Ints w v xs) (hp : permOk xs = true) :
    Calls Try.prog 73 #[.int .i64 p, v] w fun e w' =>
      ∃ u, e = .returned (.agg #[.int .i64 p, .int .i64 xs.length, .int .i64 xs.length, u]) ∧ OwnI 3 w' w.heap.size w'.heap.size u (permRows xs).flatten ∧ Below w.heap.size w w' := by
  have hw := Lib.hid h
  obtain ⟨q, cap, rfl, ⟨hx1, hx⟩, hxc⟩ := h
  obtain ⟨hl1, hl7, hr, _⟩ := of_decide_eq_true hp
  have Hp := Lib.hid hp
  clear hp
  have hsq : xs.length * xs.length ≤ 7 * 7 := Nat.mul_le_mul hl7 hl7
  obtain ⟨N, hN, hwr, hwk⟩ := mul_named xs.length xs.length (by omega)
  have hN49 : N ≤ 49 := by omega
  have HN := Lib.hid hN
  have Hr := Lib.hid hr
  have hmk := run_make_row' (P := Try.prog) 24 3 (.int .i64 0) 8 Try.underlying24 info_int rfl .i64 .i64 N (by omega) (by omega)
  clear hr hsq hN
  unfold maxLen at hx
  have Hxc := Lib.hid hxc
  clear hxc
  go_enter Try.func73, Try.ntmps73
  go_wp2
  clear hmk hwr hwk
  go_loopg [7] xs.length (fun g i wr => ∃ k : Nat, k ≤ xs.length ∧ g = xs.length - k ∧ i = .int .i64 k ∧ Below w.heap.size w wr ∧
    wr.heap[w.heap.size]? = some (.cells #[.int .i64 0, .int .i64 0, .int .i64 0, .slice none 0 0] 34) ∧
    wr.heap[w.heap.size + 1 + 1]? = some (.cells #[.int .i64 p, .int .i64 xs.length, .int .i64 xs.length, .slice (some ⟨w.heap.size + 1, 0, none⟩) N N] 34) ∧
    wr.rowIs (w.heap.size + 1) 3 N (fun t => .int .i64 (if t / xs.length < k ∧ ((t % xs.length : Nat) : Int) = xs.getD (t / xs.length) 0 then 1 else 0)))
  case atStart =>
    refine ⟨0, Nat.zero_le _, rfl, rfl, below_alloc3 _ _ _ _, ?_, ?_, ?_⟩
    · rw [heap_alloc_low _ _ (by simp; omega), heap_alloc_low _ _ (by simp)]; exact heap_alloc_top _ _
    · exact heap_alloc_at _ _ (by simp)
    · have := World.rowIs_made (w.alloc (.cells #[.int .i64 0, .int .i64 0, .int .i64 0, .slice none 0 0] 34)) (.int .i64 0) N 3
      rw [size_alloc] at this
      exact (this.alloc _).congr fun j _ => by simp
  case round =>
    obtain ⟨k, hk, rfl, rfl, hb, hB0, hB2, hrow⟩ := hrel
    by_cases hlt : k < xs.length
    · obtain ⟨b, off, rfl, hc⟩ := Hxc.out (by omega)
      have hx0 := Hr.out _ (getD_mem hlt)
      obtain ⟨m, hm⟩ := Int.eq_ofNat_of_zero_le hx0.1
      have c1 : wr.cell? ⟨b, off + k, none⟩ = some (.int .i64 (m : Int)) := by
        rw [hb.cell (p := ⟨b, off + k, none⟩) (World.block_lt_of_cell? _ _ (hc k hlt)), hc k hlt]; simp only [iv, hm]
      have hml : m < xs.length := by omega
      have hKn : k * xs.length + m < N := by
        have := HN.out
        have h2 := Nat.mul_le_mul_right xs.length hlt
        rw [Nat.succ_mul] at h2
        omega
      obtain ⟨K, hK, hkr, hkk⟩ := mul_named k xs.length (by omega)
      have Hkr := Lib.hid hkr
      have Hkk := Lib.hid hkk
      clear hkr hkk
      have HK := Lib.hid hK
      have hKm : K + m < N := by omega
      have hb0 : -1000000000000000000 ≤ (K : Int) + (m : Int) := by omega
      have hb1 : (K : Int) + (m : Int) ≤ 1000000000000000000 := by omega
      have Hm := Lib.hid hm
      have hi0 : (0 : Int) ≤ (K : Int) + m := by omega
      have hi1 : (K : Int) + m < (N : Int) := by omega
      have hi2 : ((K : Int) + (m : Int)).toNat = K + m := by omega
      obtain ⟨z, c3⟩ : ∃ z, wr.cell? ⟨w.heap.size + 1, K + m, none⟩ = some (.int .i64 z) := ⟨_, hrow.cell hKm⟩
      have c4 := hrow.frozen (K + m)
      obtain ⟨c20, c21, c22, c23, c2f, hz2⟩ := blk4 hB2
      have Hrow := Lib.hid hrow
      have HB0 := Lib.hid hB0
      have HB2 := Lib.hid hB2
      clear hc hx0 hm hK hKn hrow hB0 hB2
      have hkr := Hkr.out
      have hkk := Hkk.out
      have hs1 := w64 hb0 hb1
      have hs2 := k64 hb0 hb1
      clear hb0 hb1
      go_wp2
      go_still_tail 11, (by kernel_rfl)
      change wpList _ _ _ _ _ wr.drew
      go_wp2
      clear hkr hkk hs1 hs2
      go_roundg (xs.length - (k + 1))
      case measure => omega
      case rel =>
        refine ⟨k + 1, by omega, rfl, by go_num, (hb.setCell (by simp) _).drew, ?_, ?_, ((Hrow.out.set (K + m) _).congr fun t ht => ?_).drew⟩
        · exact (Below.heap_setCell _ _ _ _ (by simp)).trans HB0.out
        · exact (Below.heap_setCell _ _ _ _ (by simp)).trans HB2.out
        · rw [← pm_step Hm.out hml, ← HK.out]
          by_cases e : t = K + m <;> simp [e]
    · obtain ⟨c20, c21, c22, c23, c2f, hz2⟩ := blk4 hB2
      obtain ⟨c00, c01, c02, c03, c0f, hz0⟩ := blk4 hB0
      obtain rfl : k = xs.length := by omega
      have Hrow := Lib.hid hrow
      clear hrow hB0 hB2
      go_wp2
      have hown : OwnI 3 wr (w.heap.size + 1) (w.heap.size + 1 + 1) (.slice (some ⟨w.heap.size + 1, 0, none⟩) N N) (permRows xs).flatten := by
        have hl : (permRows xs).flatten.length = N := by rw [permRows_flat_length]; exact HN.out.symm
        refine OwnF.ints ?_
        rw [hl]
        refine OwnF.mk' (Hrow.out) (Nat.le_refl _) (by omega) (Nat.le_refl _) (by unfold maxLen; omega) fun t ht => ?_
        have ht' : t < xs.length * xs.length := by rw [← HN.out]; exact ht
        rw [iv, permRows_flat_getD ht']
        have hd : t / xs.length < xs.length := Nat.div_lt_of_lt_mul ht'
        simp [hd]
      refine bodyPost_ret (v := .agg #[.int .i64 p, .int .i64 xs.length, .int .i64 xs.length, .slice (some ⟨w.heap.size + 1, 0, none⟩) N N]) (by simp [results, Try.results73, go_sem, c00, c01, c02, c03, hz0]) rfl ⟨_, rfl, ?_, ?_⟩
      · exact (own_set4 hown (.inl (by omega)) _ _ _ _).mono (by omega) (by simp only [size_setCell]; omega)
      · exact below_set4 hb (Nat.le_refl _) _ _ _ _

def permMx (p : Int) (xs : List Int) : Mx := if primeOk p && permOk xs then ⟨p, xs.length, xs.length, (permRows xs).flatten⟩ else mxZero

theorem l7Prime_b (p : Int) (b : Bool) (hb : primeOk p = b) (w : World) :
    Calls Try.prog 96 #[.int .i64 p] w fun e w' => e = .returned (.bool b) ∧ w = w' := hb ▸ l7Prime_any p w
theorem implIsPerm_b (v : Value) (xs : List Int) (b : Bool) (hb : permOk xs = b) (w : World) (h : Ints w v xs) :
    Calls Try.prog 35 #[v] w fun e w' => e = .returned (.bool b) ∧ Below w.heap.size w w' := hb ▸ implIsPerm_any v xs w h

/-- the block of the result, still zero -/
theorem zero_blk {w w1 : World} {T : TypeId} {x0 x1 x2 x3 : Value} (hb : Below (w.alloc (.cells #[x0, x1, x2, x3] T)).heap.size (w.alloc (.cells #[x0, x1, x2, x3] T)) w1) :
    w1.heap[w.heap.size]? = some (.cells #[x0, x1, x2, x3] T (0, 0)) ∧ Below w.heap.size w w1 := by
  refine ⟨?_, (below_alloc w _).trans (hb.mono (by simp))⟩
  rw [hb.block _ (by simp)]; exact heap_alloc_top _ _

theorem permMx_no {p : Int} {xs : List Int} (h : primeOk p = false ∨ permOk xs = false) : permMx p xs = mxZero := by
  unfold permMx
  rcases h with h | h <;> simp [h]
theorem permMx_yes {p : Int} {xs : List Int} (h1 : primeOk p = true) (h2 : permOk xs = true) : permMx p xs = ⟨p, xs.length, xs.length, (permRows xs).flatten⟩ := by simp [permMx, h1, h2]

set_option maxHeartbeats 400000 in
theorem isPrime_b (p : Int) (b : Bool) (hb : primeOk p = b) (w : World) :
    Calls Try.prog 34 #[.int .i64 p] w fun e w' => e = .returned (.bool b) ∧ w = w' := by
  subst hb
  by_cases h2 : p = 2
  · subst h2
    go_enter Try.func34, Try.ntmps34
    go_wp2
    go_ret
    exact ⟨rfl, rfl⟩
  by_cases h3 : p = 3
  · subst h3
    go_enter Try.func34, Try.ntmps34
    go_wp2
    go_ret
    exact ⟨rfl, rfl⟩
  by_cases h5 : p = 5
  · subst h5
    go_enter Try.func34, Try.ntmps34
    go_wp2
    go_ret
    exact ⟨rfl, rfl⟩
  by_cases h7 : p = 7
  · subst h7
    go_enter Try.func34, Try.ntmps34
    go_wp2
    go_ret
    exact ⟨rfl, rfl⟩
  · have e2 : (p == 2) = false := by simp [h2]
    have e3 : (p == 3) = false := by simp [h3]
    have e5 : (p == 5) = false := by simp [h5]
    have e7 : (p == 7) = false := by simp [h7]
    go_enter Try.func34, Try.ntmps34
    go_wp2
    go_ret
    exact ⟨ret_bool (by simp [primeOk, h2, h3, h5, h7]), rfl⟩

set_option maxRecDepth 100000 in
set_option maxHeartbeats 1000000 in
theorem implPermMatrix_any (p : Int) (v : Value) (xs : List Int) (w : World) (h : Ints w v xs) :
    Calls Try.prog 38 #[.int .i64 p, v] w (RetM w (permMx p xs)) := by
  have h1 := fun o => h.below (below_alloc w o)
  have H1 := Lib.hid h1
  clear h1
  cases hp : primeOk p with
  | false =>
    have Hm := Lib.hid (permMx_no (xs := xs) (.inl hp))
    have Hp := Lib.hid hp
    clear hp h
    go_enter Try.func38, Try.ntmps38
    go_wp2_with (go_at_call 34; refine (isPrime_b _ _ Hp.out _).mono ?_; rintro e w' ⟨rfl, rfl⟩)
    rw [Hm.out]
    refine bodyPost_ret (v := .agg #[.int .i64 0, .int .i64 0, .int .i64 0, .slice none 0 0]) (by simp [results, Try.results38, go_sem]) rfl ⟨_, rfl, ?_, ?_⟩
    · exact ⟨World.ownsRow_nil _ _ _ _, fun k hk => by simp [Value.ownBlock] at hk⟩
    · exact below_alloc w _
  | true =>
    have Hp := Lib.hid hp
    cases hx : permOk xs with
    | false =>
      have Hm := Lib.hid (permMx_no (p := p) (.inr hx))
      have Hx := Lib.hid hx
      clear hp hx h
      go_enter Try.func38, Try.ntmps38
      go_wp2_with (first
        | (go_at_call 34; refine (isPrime_b _ _ Hp.out _).mono ?_; rintro e w' ⟨rfl, rfl⟩)
        | (go_at_call 35; refine (implIsPerm_b _ xs _ Hx.out _ (H1.out _)).mono ?_; rintro e w1 ⟨rfl, hb⟩; obtain ⟨hz0, hbw⟩ := zero_blk hb; obtain ⟨c00, c01, c02, c03, c0f, hz⟩ := blk4 hz0; clear hz0 hb))
      rw [Hm.out]
      refine bodyPost_ret (v := .agg #[.int .i64 0, .int .i64 0, .int .i64 0, .slice none 0 0]) (by simp [results, Try.results38, go_sem, c00, c01, c02, c03, hz]) rfl ⟨_, rfl, ?_, ?_⟩
      · exact ⟨World.ownsRow_nil _ _ _ _, fun k hk => by simp [Value.ownBlock] at hk⟩
      · exact below_set4 hbw (Nat.le_refl _) _ _ _ _
    | true =>
      have Hm := Lib.hid (permMx_yes hp hx)
      have Hx := Lib.hid hx
      obtain ⟨hl1, hl7, hr, _⟩ := of_decide_eq_true hx
      have Hr := Lib.hid hr
      clear hp hx h hr
      obtain ⟨q, cap, rfl, ⟨hx1, hx2⟩, hxc⟩ := H1.out default
      clear hxc
      unfold maxLen at hx2
      go_enter Try.func38, Try.ntmps38
      go_wp2_with (first
        | (go_at_call 34; refine (isPrime_b _ _ Hp.out _).mono ?_; rintro e w' ⟨rfl, rfl⟩)
        | (go_at_call 35; refine (implIsPerm_b _ xs _ Hx.out _ (H1.out _)).mono ?_; rintro e w1 ⟨rfl, hb⟩; have H2 := Lib.hid ((H1.out _).below hb); obtain ⟨hz0, hbw⟩ := zero_blk hb; have Hz0 := Lib.hid hz0; clear hz0 hb))
      have hmk := run_make_row' (P := Try.prog) 24 3 (.int .i64 0) 8 Try.underlying24 info_int rfl .i64 .i64 xs.length (by omega) (by omega)
      have Hmk := Lib.hid hmk
      clear hmk
      go_loopg [5, 21] xs.length (fun g s5 i wr => ∃ k : Nat, k ≤ xs.length ∧ g = xs.length - k ∧ i = .int .i64 k ∧ Below w1.heap.size w1 wr ∧
        OwnII 24 3 wr w1.heap.size wr.heap.size s5 ((permRows xs).take k))
      case atStart =>
        exact ⟨0, Nat.zero_le _, rfl, rfl, below_alloc _ _, fun _ => undef, (OwnF.made0 w1 24 _).mono (Nat.le_refl _) (by simp), fun i hi => absurd hi (by simp), fun i j _ hj => absurd hj (by simp)⟩
      case round =>
        obtain ⟨k, hk, rfl, rfl, hb, f, g1, g2, g3⟩ := hrel
        by_cases hlt : k < xs.length
        · obtain ⟨_, _, e, _, hxc⟩ := H2.out
          injection e with e1 e2 e3
          subst e1 e3
          obtain ⟨b, off, rfl, hc⟩ := hxc (by omega)
          have hx0 := Hr.out _ (getD_mem hlt)
          obtain ⟨m, hm⟩ := Int.eq_ofNat_of_zero_le hx0.1
          have c1 : wr.cell? ⟨b, off + k, none⟩ = some (.int .i64 (m : Int)) := by
            rw [hb.cell (p := ⟨b, off + k, none⟩) (World.block_lt_of_cell? _ _ (hc k hlt)), hc k hlt]; simp only [iv, hm]
          have hml : m < xs.length := by omega
          have Hm' := Lib.hid hm
          have hmk := Hmk.out
          clear hxc hx0 hc hm
          have hcm : (madeCells #[Value.int .i64 0] xs.length)[m]? = some (.int .i64 0) := by simp [madeCells, hml, Nat.mod_one]
          have hlen : ((permRows xs).take k).length = k := by rw [List.length_take, permRows_length]; omega
          rw [hlen] at g1 g2 g3
          have G1 := Lib.hid g1
          have G2 := Lib.hid g2
          have G3 := Lib.hid g3
          have hsz := hb.size
          have hk7 : k + 1 ≤ 7 := by omega
          have Hb1 := Lib.hid (show k + 1 ≤ maxLen by unfold maxLen; omega)
          have Hb2 := Lib.hid (show (k + 1) * 24 ≤ 140737488355328 by omega)
          have hO := Lib.hid fun o o' => g1.below (below_alloc2 wr o o')
          have Hlen := Lib.hid hlen
          clear g1 g2 g3 hlen
          go_wp2_with (at_builtin; go_must (refine wpList_append_F rfl (.tmp 31) (.tmp 33) 42 rfl 24 (.slice none 0 0) 24 Try.underlying42 info_sl rfl w1.heap.size wr.heap.size u5 k f rfl (hO.out _ _) (by simp; omega) (by simp; omega) _ _ _ rfl (rd_one _ _ _ (by simp)) (fun j _ => rfl) Hb1.out Hb2.out ?_; intro v' w' ho' hg'))
          clear hmk hcm
          have hrow : OwnI 3 ((wr.alloc (.cells ((madeCells #[Value.int .i64 0] xs.length).setIfInBounds m (.int .i64 1)) 3)).alloc (.cells #[.slice (some ⟨wr.heap.size, 0, none⟩) xs.length xs.length] 24)) wr.heap.size (wr.heap.size + 1)
              (.slice (some ⟨wr.heap.size, 0, none⟩) xs.length xs.length) (unitRow xs.length (xs.getD k 0)) := by
            have hu := unitRow_length xs.length (xs.getD k 0)
            refine OwnF.ints ?_
            rw [hu]
            have hr0 : World.rowIs (wr.alloc (.cells ((madeCells #[Value.int .i64 0] xs.length).setIfInBounds m (.int .i64 1)) 3)) wr.heap.size 3 xs.length (fun j => .int .i64 (if j = m then 1 else 0)) := by
              have := World.rowIs_alloc wr ((madeCells #[Value.int .i64 0] xs.length).setIfInBounds m (.int .i64 1)) 3 (fun j => .int .i64 (if j = m then 1 else 0)) (fun i hi => by
                simp [madeCells] at hi
                by_cases e : i = m
                · subst e; simp [madeCells, hml]
                · simp [madeCells, Array.getElem?_setIfInBounds, hi, e, Nat.mod_one, show ¬ m = i by omega])
              simpa [madeCells] using this
            refine OwnF.mk' (hr0.alloc _) (Nat.le_refl _) (by omega) (Nat.le_refl _) (by unfold maxLen; omega) fun j hj => ?_
            rw [iv, unitRow_getD hj, Hm'.out]
            by_cases e : j = m
            · subst e; simp
            · rw [if_neg e, if_neg (by omega)]
          go_roundg (xs.length - (k + 1))
          case measure => omega
          case rel =>
            refine ⟨k + 1, by omega, rfl, by go_num, (hb.trans (below_alloc2 wr _ _ |>.mono hsz)).trans (grownBy_below hg' (hO.out default default).blocks (Nat.le_refl _) (by simp; omega)), ?_⟩
            rw [permRows_take_succ hlt]
            have hs := hg'.size
            simp only [size_alloc] at hs
            refine OwnII.snoc (mid := wr.heap.size) (hi := wr.heap.size + 1) (f := f) ?_ ?_ ?_ hrow hsz (by omega) (by decide) hg' (by omega) ?_
            · rw [Hlen.out]; exact hO.out _ _
            · rw [Hlen.out]; exact fun i hi => (G2.out i hi).below (below_alloc2 wr _ _)
            · rw [Hlen.out]; exact G3.out
            · rw [Hlen.out]; exact ho'
        · obtain rfl : k = xs.length := by omega
          rw [List.take_of_length_le (by rw [permRows_length]; exact Nat.le_refl _)] at g1 g2 g3
          have hII : OwnII 24 3 wr w1.heap.size wr.heap.size u5 (permRows xs) := ⟨f, g1, g2, g3⟩
          have hz2 := blk_later Hz0.out (hb.mono (Nat.le_refl _))
          have hfl : (permRows xs).flatten.length ≤ 1000000 := by
            rw [permRows_flat_length]
            have := Nat.mul_le_mul hl7 hl7
            omega
          have HII := Lib.hid hII
          have Hz2 := Lib.hid hz2
          have Hfl := Lib.hid hfl
          clear hII hz2 g1 g2 g3 hfl
          go_wp2_with (go_at_call 45; refine (matrixOf_any _ _ _ _ _ HII.out.rd Hfl.out).mono ?_; rintro e w2 ⟨u, rfl, ho, hb2⟩; obtain ⟨c00, c01, c02, c03, c0f, hz⟩ := blk4 (blk_later Hz2.out hb2); obtain ⟨up, ucap, rfl, _, _⟩ := ho.shape; have Ho := Lib.hid ho; clear ho)
          rw [Hm.out]
          have hz1 := blk_lt Hz0.out
          have hz3 := hb.size
          refine bodyPost_ret (v := .agg #[.int .i64 p, .int .i64 xs.length, .int .i64 xs.length, .slice up (permRows xs).flatten.length ucap]) (by simp [results, Try.results38, go_sem, c00, c01, c02, c03, hz, permRows_length]) rfl ⟨_, rfl, ?_, ?_⟩
          · exact (own_set4 Ho.out (.inl (by omega)) _ _ _ _).mono (by omega) (by simp only [size_setCell]; omega)
          · exact below_set4 ((hbw.trans (hb.mono (by omega))).trans (hb2.mono (by omega))) (Nat.le_refl _) _ _ _ _

theorem permMx_len (p : Int) (xs : List Int) : (permMx p xs).D.length ≤ 1000000 := by
  unfold permMx
  split
  · rename_i h
    simp only [Bool.and_eq_true] at h
    obtain ⟨_, h7, _⟩ := of_decide_eq_true h.2
    show (permRows xs).flatten.length ≤ _
    rw [permRows_flat_length]
    have := Nat.mul_le_mul h7 h7
    omega
  · simp [mxZero]

end Go.Proofs.Ytoodgbflaaabmaa

namespace Go.Proofs.Ytoodgbflaaabmaa
set_option linter.all false
open Go.RowKit

/-- a matrix: one of the four primes, from 0 to 7 rows of from 1 to 7 numbers, each from 0 on and below the prime -/
def mxOk (P R C : Int) (D : List Int) : Bool :=
  decide (primeOk P = true ∧ (0 ≤ R ∧ R ≤ 7) ∧ (1 ≤ C ∧ C ≤ 7) ∧ (D.length : Int) = R * C ∧ ∀ x ∈ D, 0 ≤ x ∧ x < P)

theorem mxOk_no1 {P R C : Int} {D : List Int} (h : primeOk P = false) : mxOk P R C D = false := by
  simp only [mxOk, decide_eq_false_iff_not]; rintro ⟨h1, _⟩; rw [h] at h1; cases h1
theorem mxOk_no2 {P R C : Int} {D : List Int} (h : ¬ (0 ≤ R ∧ R ≤ 7)) : mxOk P R C D = false := by
  simp only [mxOk, decide_eq_false_iff_not]; exact fun e => h e.2.1
theorem mxOk_no3 {P R C : Int} {D : List Int} (h : ¬ (1 ≤ C ∧ C ≤ 7)) : mxOk P R C D = false := by
  simp only [mxOk, decide_eq_false_iff_not]; exact fun e => h e.2.2.1
theorem mxOk_no4 {P R C : Int} {D : List Int} (h : ¬ (D.length : Int) = R * C) : mxOk P R C D = false := by
  simp only [mxOk, decide_eq_false_iff_not]; exact fun e => h e.2.2.2.1
theorem mxOk_no5 {P R C : Int} {D : List Int} {k : Nat} (hk : k < D.length) (h : ¬ (0 ≤ D.getD k 0 ∧ D.getD k 0 < P)) : mxOk P R C D = false := by
  simp only [mxOk, decide_eq_false_iff_not]; exact fun e => h (e.2.2.2.2 _ (getD_mem hk))
theorem mxOk_yes {P R C : Int} {D : List Int} (h1 : primeOk P = true) (h2 : 0 ≤ R ∧ R ≤ 7) (h3 : 1 ≤ C ∧ C ≤ 7) (h4 : (D.length : Int) = R * C) (h5 : ∀ j, j < D.length → 0 ≤ D.getD j 0 ∧ D.getD j 0 < P) : mxOk P R C D = true := by
  simp only [mxOk, decide_eq_true_eq]
  refine ⟨h1, h2, h3, h4, fun x hx => ?_⟩
  obtain ⟨j, hj, rfl⟩ := List.mem_iff_getElem.1 hx
  have := h5 j hj
  rwa [getD_lt hj] at this
theorem primeOk_range {P : Int} (h : primeOk P = true) : 2 ≤ P ∧ P ≤ 7 := by
  have := of_decide_eq_true h
  omega

set_option maxRecDepth 100000 in
set_option maxHeartbeats 1000000 in
theorem specMatrixOk_any (P R C : Int) (d : Value) (D : List Int) (w : World) (h : Ints w d D) :
    Calls Try.prog 89 #[.agg #[.int .i64 P, .int .i64 R, .int .i64 C, d]] w fun e w' => e = .returned (.bool (mxOk P R C D)) ∧ Below w.heap.size w w' := by
  have hI := Lib.hid h
  obtain ⟨p, cap, rfl, ⟨hx1, hx2⟩, hxc⟩ := h
  have Hxc := Lib.hid hxc
  clear hxc
  unfold maxLen at hx2
  cases hp : primeOk P with
  | false =>
    rw [mxOk_no1 hp]
    have Hp := Lib.hid hp
    clear hp
    go_enter Try.func89, Try.ntmps89
    go_wp2_with (go_at_call 96; refine (l7Prime_b _ _ Hp.out _).mono ?_; rintro e w' ⟨rfl, rfl⟩)
    go_ret
    exact ⟨rfl, below_alloc _ _⟩
  | true =>
    have Hp := Lib.hid hp
    clear hp
    by_cases hR : 0 ≤ R ∧ R ≤ 7
    case neg =>
      rw [mxOk_no2 hR]
      have HR := Lib.hid hR
      clear hR
      go_enter Try.func89, Try.ntmps89
      go_wp2_with (first
        | (go_at_call 96; refine (l7Prime_b _ _ Hp.out _).mono ?_; rintro e w' ⟨rfl, rfl⟩)
        | (go_at_call 76; refine (l1In_no _ _ _ _ HR.out).mono ?_; rintro e w' ⟨rfl, rfl⟩))
      go_ret
      exact ⟨rfl, below_alloc _ _⟩
    by_cases hC : 1 ≤ C ∧ C ≤ 7
    case neg =>
      rw [mxOk_no3 hC]
      have HR := Lib.hid hR
      have HC := Lib.hid hC
      clear hR hC
      go_enter Try.func89, Try.ntmps89
      go_wp2_with (first
        | (go_at_call 96; refine (l7Prime_b _ _ Hp.out _).mono ?_; rintro e w' ⟨rfl, rfl⟩)
        | (go_at_call 76; with_reducible refine (l1In_yes R 0 7 _ HR.out).mono ?_; rintro e w' ⟨rfl, rfl⟩)
        | (go_at_call 76; refine (l1In_no _ _ _ _ HC.out).mono ?_; rintro e w' ⟨rfl, rfl⟩))
      go_ret
      exact ⟨rfl, below_alloc _ _⟩
    have hR' := hR
    have hC' := hC
    obtain ⟨r, rfl⟩ := Int.eq_ofNat_of_zero_le hR.1
    obtain ⟨c, rfl⟩ := Int.eq_ofNat_of_zero_le (show (0 : Int) ≤ C by omega)
    have hrc : r * c ≤ 7 * 7 := Nat.mul_le_mul (by omega) (by omega)
    obtain ⟨N, hN, hwr, hwk⟩ := mul_named r c (by omega)
    have HR := Lib.hid hR'
    have HC := Lib.hid hC'
    have Hwr := Lib.hid hwr
    have Hwk := Lib.hid hwk
    clear hwr hwk hR hC hR' hC'
    have hNi : (N : Int) = (r : Int) * (c : Int) := by rw [hN]; exact Int.natCast_mul r c
    by_cases hl : D.length = N
    case neg =>
      rw [mxOk_no4 (by rw [← hNi]; omega)]
      have hl1 : ((D.length : Int) != (N : Int)) = true := by simp; omega
      have hwr := Hwr.out
      clear hl hN hNi hrc
      go_enter Try.func89, Try.ntmps89
      go_wp2_with (first
        | (go_at_call 96; refine (l7Prime_b _ _ Hp.out _).mono ?_; rintro e w' ⟨rfl, rfl⟩)
        | (go_at_call 76; with_reducible refine (l1In_yes _ 0 7 _ HR.out).mono ?_; rintro e w' ⟨rfl, rfl⟩)
        | (go_at_call 76; with_reducible refine (l1In_yes _ 1 7 _ HC.out).mono ?_; rintro e w' ⟨rfl, rfl⟩))
      go_ret
      exact ⟨rfl, below_alloc _ _⟩
    have hl1 : ((D.length : Int) != (N : Int)) = false := by simp; omega
    have Hl := Lib.hid hl
    have HNi := Lib.hid hNi
    have hwr := Hwr.out
    have hN49 : D.length ≤ 49 := by omega
    clear hl hN hNi hrc
    have Hp2 := Lib.hid (primeOk_range Hp.out)
    go_enter Try.func89, Try.ntmps89
    go_wp2_with (first
      | (go_at_call 96; refine (l7Prime_b _ _ Hp.out _).mono ?_; rintro e w' ⟨rfl, rfl⟩)
      | (go_at_call 76; with_reducible refine (l1In_yes _ 0 7 _ HR.out).mono ?_; rintro e w' ⟨rfl, rfl⟩)
      | (go_at_call 76; with_reducible refine (l1In_yes _ 1 7 _ HC.out).mono ?_; rintro e w' ⟨rfl, rfl⟩))
    clear hwr hl1
    go_loopg [3] D.length (fun g i wr => ∃ k : Nat, k ≤ D.length ∧ g = D.length - k ∧ i = .int .i64 k ∧ Qt (w.alloc (.cells #[.int .i64 P, .int .i64 r, .int .i64 c, .slice p D.length cap] 34)) wr ∧ Hid (∀ j, j < k → 0 ≤ D.getD j 0 ∧ D.getD j 0 < P))
    case atStart => exact ⟨0, Nat.zero_le _, rfl, rfl, Qt.refl _, fun j hj => absurd hj (Nat.not_lt_zero _)⟩
    case round =>
      obtain ⟨k, hk, rfl, rfl, hq, hp⟩ := hrel
      obtain ⟨c0, c1, c2, c3, cf, hz⟩ := blk4 (blk_later (heap_alloc_top w _) (hq.below _))
      by_cases hlt : k < D.length
      · obtain ⟨b, off, rfl, hc⟩ := Hxc.out (by omega)
        have c4 : wr.cell? ⟨b, off + k, none⟩ = some (.int .i64 (D.getD k 0)) :=
          hq.cell ((below_alloc w _).cell (p := ⟨b, off + k, none⟩) (World.block_lt_of_cell? _ _ (hc k hlt)) ▸ hc k hlt)
        have hB : wr.heap.size = w.heap.size + 1 := by rw [hq.size]; simp
        clear hc
        have hP := Hp2.out
        have hwp : IntKind.i64.wrap (P - 1) = P - 1 := IntWalk.i64_in _ (by omega)
        clear hP
        by_cases hin : 0 ≤ D.getD k 0 ∧ D.getD k 0 < P
        · have hd : Hid (0 ≤ D[k] ∧ D[k] ≤ P - 1) := by rw [getD_lt hlt] at hin; unfold Hid; omega
          have Hin := Lib.hid hin
          clear hin
          go_wp2_with fail
          go_quiet (first
            | (go_at_call 76; exact quiet_same (l1In_yes _ _ _ _ hd.out)))
          clear hd hwp
          go_wp2_with fail
          go_roundg (D.length - (k + 1))
          case measure => omega
          case rel =>
            refine ⟨k + 1, by omega, rfl, by go_num, hq.drewN _, fun j hj => ?_⟩
            by_cases e : j = k
            · subst e; exact Hin.out
            · exact hp.out j (by omega)
        · have hd : Hid (¬ (0 ≤ D[k] ∧ D[k] ≤ P - 1)) := by rw [getD_lt hlt] at hin; unfold Hid; omega
          have Hin := Lib.hid hin
          clear hin
          go_wp2_with fail
          go_quiet (first
            | (go_at_call 76; exact quiet_same (l1In_no _ _ _ _ hd.out)))
          clear hd hwp
          go_wp2_with fail
          go_ret
          exact ⟨ret_bool (mxOk_no5 hlt Hin.out).symm, (below_alloc w _).trans ((hq.drewN _).below _)⟩
      · go_wp2_with fail
        go_ret
        exact ⟨ret_bool (mxOk_yes Hp.out HR.out HC.out (by rw [Hl.out]; exact HNi.out) (fun j hj => hp.out j (by omega))).symm, (below_alloc w _).trans (hq.below _)⟩

set_option maxRecDepth 100000 in
set_option maxHeartbeats 1000000 in
theorem implMatrixOk_any (P R C : Int) (d : Value) (D : List Int) (w : World) (h : Ints w d D) :
    Calls Try.prog 52 #[.agg #[.int .i64 P, .int .i64 R, .int .i64 C, d]] w fun e w' => e = .returned (.bool (mxOk P R C D)) ∧ Below w.heap.size w w' := by
  have hI := Lib.hid h
  obtain ⟨p, cap, rfl, ⟨hx1, hx2⟩, hxc⟩ := h
  have Hxc := Lib.hid hxc
  clear hxc
  unfold maxLen at hx2
  cases hp : primeOk P with
  | false =>
    rw [mxOk_no1 hp]
    have Hp := Lib.hid hp
    clear hp
    go_enter Try.func52, Try.ntmps52
    go_wp2_with (go_at_call 34; refine (isPrime_b _ _ Hp.out _).mono ?_; rintro e w' ⟨rfl, rfl⟩)
    go_ret
    exact ⟨rfl, below_alloc _ _⟩
  | true =>
    have Hp := Lib.hid hp
    clear hp
    by_cases hR : 0 ≤ R ∧ R ≤ 7
    case neg =>
      rw [mxOk_no2 hR]
      by_cases hneg : R < 0
      · clear hR
        go_enter Try.func52, Try.ntmps52
        go_wp2_with (go_at_call 34; refine (isPrime_b _ _ Hp.out _).mono ?_; rintro e w' ⟨rfl, rfl⟩)
        go_ret
        exact ⟨rfl, below_alloc _ _⟩
      · have h7 : 7 < R := by omega
        clear hR
        go_enter Try.func52, Try.ntmps52
        go_wp2_with (go_at_call 34; refine (isPrime_b _ _ Hp.out _).mono ?_; rintro e w' ⟨rfl, rfl⟩)
        go_ret
        exact ⟨rfl, below_alloc _ _⟩
    by_cases hC : 1 ≤ C ∧ C ≤ 7
    case neg =>
      rw [mxOk_no3 hC]
      obtain ⟨hR1, hR2⟩ := hR
      have hR1' : ¬ R < 0 := by omega
      have hR2' : ¬ 7 < R := by omega
      by_cases hneg : C < 1
      · clear hC
        go_enter Try.func52, Try.ntmps52
        go_wp2_with (go_at_call 34; refine (isPrime_b _ _ Hp.out _).mono ?_; rintro e w' ⟨rfl, rfl⟩)
        go_ret
        exact ⟨rfl, below_alloc _ _⟩
      · have h7 : 7 < C := by omega
        clear hC
        go_enter Try.func52, Try.ntmps52
        go_wp2_with (go_at_call 34; refine (isPrime_b _ _ Hp.out _).mono ?_; rintro e w' ⟨rfl, rfl⟩)
        go_ret
        exact ⟨rfl, below_alloc _ _⟩
    have hR' := hR
    have hC' := hC
    obtain ⟨r, rfl⟩ := Int.eq_ofNat_of_zero_le hR.1
    obtain ⟨c, rfl⟩ := Int.eq_ofNat_of_zero_le (show (0 : Int) ≤ C by omega)
    have hrc : r * c ≤ 7 * 7 := Nat.mul_le_mul (by omega) (by omega)
    obtain ⟨N, hN, hwr, hwk⟩ := mul_named r c (by omega)
    have HR := Lib.hid hR'
    have HC := Lib.hid hC'
    have Hwr := Lib.hid hwr
    have Hwk := Lib.hid hwk
    have t1 : decide ((r : Int) < 0) = false := decide_eq_false (by omega)
    have t2 : decide (7 < (r : Int)) = false := by simp; omega
    have t3 : decide ((c : Int) < 1) = false := by simp; omega
    have t4 : decide (7 < (c : Int)) = false := by simp; omega
    clear hwr hwk hR hC hR' hC'
    have hNi : (N : Int) = (r : Int) * (c : Int) := by rw [hN]; exact Int.natCast_mul r c
    by_cases hl : D.length = N
    case neg =>
      rw [mxOk_no4 (by rw [← hNi]; omega)]
      have hl1 : ((D.length : Int) != (N : Int)) = true := by simp; omega
      have hwr := Hwr.out
      clear hl hN hNi hrc
      go_enter Try.func52, Try.ntmps52
      go_wp2_with (go_at_call 34; refine (isPrime_b _ _ Hp.out _).mono ?_; rintro e w' ⟨rfl, rfl⟩)
      go_ret
      exact ⟨rfl, below_alloc _ _⟩
    have hl1 : ((D.length : Int) != (N : Int)) = false := by simp; omega
    have Hl := Lib.hid hl
    have HNi := Lib.hid hNi
    have hwr := Hwr.out
    have hN49 : D.length ≤ 49 := by omega
    clear hl hN hNi hrc
    have Hp2 := Lib.hid (primeOk_range Hp.out)
    go_enter Try.func52, Try.ntmps52
    go_wp2_with (go_at_call 34; refine (isPrime_b _ _ Hp.out _).mono ?_; rintro e w' ⟨rfl, rfl⟩)
    clear hwr hl1 t1 t2 t3 t4
    go_loopg [43] D.length (fun g i wr => ∃ k : Nat, k ≤ D.length ∧ g = D.length - k ∧ i = .int .i64 k ∧ wr = (w.alloc (.cells #[.int .i64 P, .int .i64 r, .int .i64 c, .slice p D.length cap] 34)) ∧ Hid (∀ j, j < k → 0 ≤ D.getD j 0 ∧ D.getD j 0 < P))
    case atStart => exact ⟨0, Nat.zero_le _, rfl, rfl, rfl, fun j hj => absurd hj (Nat.not_lt_zero _)⟩
    case round =>
      obtain ⟨k, hk, rfl, rfl, hq, hp⟩ := hrel
      have hq' : Qt (w.alloc (.cells #[.int .i64 P, .int .i64 r, .int .i64 c, .slice p D.length cap] 34)) wr := hq ▸ Qt.refl _
      have Hq := Lib.hid hq
      clear hq
      obtain ⟨c0, c1, c2, c3, cf, hz⟩ := blk4 (blk_later (heap_alloc_top w _) (hq'.below _))
      by_cases hlt : k < D.length
      · obtain ⟨b, off, rfl, hc⟩ := Hxc.out (by omega)
        have c4 : wr.cell? ⟨b, off + k, none⟩ = some (.int .i64 (D.getD k 0)) :=
          hq'.cell ((below_alloc w _).cell (p := ⟨b, off + k, none⟩) (World.block_lt_of_cell? _ _ (hc k hlt)) ▸ hc k hlt)
        clear hc
        by_cases hin : 0 ≤ D.getD k 0 ∧ D.getD k 0 < P
        · have Hin := Lib.hid hin
          have hge0 := getD_lt hlt
          have hd1 : ¬ D[k] < 0 := by omega
          have hd2 : ¬ P ≤ D[k] := by omega
          clear hin hge0
          go_wp2_with fail
          go_roundg (D.length - (k + 1))
          case measure => omega
          case rel =>
            refine ⟨k + 1, by omega, rfl, by go_num, Hq.out, fun j hj => ?_⟩
            by_cases e : j = k
            · subst e; exact Hin.out
            · exact hp.out j (by omega)
        · have Hin := Lib.hid hin
          have hge0 := getD_lt hlt
          by_cases hneg : D[k] < 0
          · clear hin hge0
            go_wp2_with fail
            go_ret
            exact ⟨ret_bool (mxOk_no5 hlt Hin.out).symm, (below_alloc w _).trans (hq'.below _)⟩
          · have hge : P ≤ D[k] := by omega
            clear hin hge0
            go_wp2_with fail
            go_ret
            exact ⟨ret_bool (mxOk_no5 hlt Hin.out).symm, (below_alloc w _).trans (hq'.below _)⟩
      · go_wp2_with fail
        go_ret
        exact ⟨ret_bool (mxOk_yes Hp.out HR.out HC.out (by rw [Hl.out]; exact HNi.out) (fun j hj => hp.out j (by omega))).symm, (below_alloc w _).trans (hq'.below _)⟩

end Go.Proofs.Ytoodgbflaaabmaa

namespace Go.Proofs.Ytoodgbflaaabmaa
set_option linter.all false
open Go.RowKit

/-- a call returned this list, in new memory, and changed nothing that was there -/
def RetI (w : World) (xs : List Int) (e : Ending) (w' : World) : Prop :=
  ∃ u, e = .returned u ∧ OwnI 3 w' w.heap.size w'.heap.size u xs ∧ Below w.heap.size w w'
/-- .. this list of lists -/
def RetII (w : World) (rows : List (List Int)) (e : Ending) (w' : World) : Prop :=
  ∃ u, e = .returned u ∧ OwnII 24 3 w' w.heap.size w'.heap.size u rows ∧ Below w.heap.size w w'

set_option maxRecDepth 100000 in
set_option maxHeartbeats 400000 in
theorem clone_any (v : Value) (xs : List Int) (w : World) (h : Ints w v xs) (hl : xs.length ≤ 1000000) :
    Calls Try.prog 68 #[v] w (RetI w xs) := by
  have hI := Lib.hid h
  obtain ⟨p, cap, rfl, ⟨hx1, hx2⟩, hxc⟩ := h
  have keq := fun (n c : Nat) => Lib.run_eql_slice_nil (P := Try.prog) w 24 3 p n c 0 0 Try.underlying24
  cases p with
  | none =>
    have hx0 : xs.length = 0 := by
      rcases Nat.eq_zero_or_pos xs.length with h0 | h0
      · exact h0
      · obtain ⟨b, off, e, _⟩ := hxc h0; cases e
    obtain rfl := List.eq_nil_of_length_eq_zero hx0
    clear hxc hI
    go_enter Try.func68, Try.ntmps68
    go_wp2_with fail
    go_ret
    exact ⟨_, rfl, ⟨World.ownsRow_nil _ _ _ _, fun k hk => by simp [Value.ownBlock] at hk⟩, Below.refl _ _⟩
  | some a =>
    have Hb1 := Lib.hid (show 0 + xs.length ≤ maxLen by unfold maxLen; omega)
    have Hb2 := Lib.hid (show (0 + xs.length) * 8 ≤ 140737488355328 by omega)
    clear hxc
    go_enter Try.func68, Try.ntmps68
    go_wp2_with (at_builtin; go_must (refine wpList_append_F rfl (.tmp 5) (.tmp 6) 24 rfl 3 (.int .i64 0) 8 Try.underlying24 info_int rfl w.heap.size (w.heap.size + 1) _ 0 (fun _ => undef) rfl (OwnF.made0 w _ _) (by simp) (by simp) _ _ _ rfl (hI.out.below (below_alloc w _)) (fun j _ => iv_one _ j) Hb1.out Hb2.out ?_; intro v' w' ho' hg'))
    go_ret
    refine ⟨_, rfl, OwnF.ints ?_, (below_alloc w _).trans (grownBy_below hg' (OwnF.made0 w 3 (fun _ => undef)).blocks (Nat.le_refl _) (by simp))⟩
    rw [Nat.zero_add] at ho'
    exact ho'.congr fun j _ => by simp

set_option maxRecDepth 100000 in
set_option maxHeartbeats 1000000 in
/-- the rows of a matrix, each in memory of its own -/
theorem lines_any (P : Int) (R C : Nat) (d : Value) (D : List Int) (w : World) (h : Ints w d D) (hR : R ≤ 1000) (hC : C ≤ 1000) (hC0 : 1 ≤ C) (hD : D.length = R * C) :
    Calls Try.prog 41 #[.agg #[.int .i64 P, .int .i64 (R : Int), .int .i64 (C : Int), d]] w (RetII w (rowsOf R C D)) := by
  have hI := Lib.hid h
  obtain ⟨p, cap, rfl, ⟨hx1, hx2⟩, hxc⟩ := h
  unfold maxLen at hx2
  have Hxc := Lib.hid hxc
  have HD := Lib.hid hD
  clear hxc hD
  go_enter Try.func41, Try.ntmps41
  go_wp2_with fail
  go_loopg [3, 8] R (fun g s3 i wr => ∃ k : Nat, k ≤ R ∧ g = R - k ∧ i = .int .i64 k ∧ Below (w.heap.size + 1) (w.alloc (.cells #[.int .i64 P, .int .i64 (R : Int), .int .i64 (C : Int), .slice p D.length cap] 34)) wr ∧
    OwnII 24 3 wr (w.heap.size + 1) wr.heap.size s3 ((rowsOf R C D).take k))
  case atStart =>
    have hm0 := OwnF.made0 (w.alloc (.cells #[.int .i64 P, .int .i64 (R : Int), .int .i64 (C : Int), .slice p D.length cap] 34)) 24 (fun _ => undef)
    simp only [size_alloc] at hm0
    exact ⟨0, Nat.zero_le _, rfl, rfl, (Below.refl _ _).alloc (by simp) _, fun _ => undef, hm0.mono (Nat.le_refl _) (by simp), fun i hi => absurd hi (by simp), fun i j _ hj => absurd hj (by simp)⟩
  case round =>
    obtain ⟨k, hk, rfl, rfl, hb, f, g1, g2, g3⟩ := hrel
    obtain ⟨c0, c1, c2, c3, cf, hz⟩ := blk4 (show wr.heap[w.heap.size]? = _ by rw [hb.block _ (by omega)]; exact heap_alloc_top w _)
    by_cases hlt : k < R
    · have hDl := HD.out
      have hkc := mul_le_of (C := C) hlt
      rw [Nat.add_mul, Nat.one_mul] at hkc
      have hRC : R * C ≤ 1000 * 1000 := Nat.mul_le_mul hR hC
      obtain ⟨K, hK, hr1, hr2⟩ := row_named k C (by omega)
      have hKn : K + C ≤ D.length := by omega
      have hKc : K < cap := by omega
      obtain ⟨b, off, rfl, hc⟩ := Hxc.out (by omega)
      have HK := Lib.hid hK
      have hbw : Below w.heap.size w wr := (below_alloc w _).trans (hb.mono (by omega))
      have Hrow := Lib.hid (Rd.part (hI.out.below hbw) K C (cap - K) hKn (by omega) (by unfold maxLen; omega))
      obtain ⟨r1, r2⟩ := hr1.out
      clear hc hDl hkc hRC hK hr2 hr1
      have hri : Ints wr (.slice (some ⟨b, off + K, none⟩) C (cap - K)) (rowAt C D k) := by
        have hrl : (rowAt C D k).length = C := rowAt_length (by rw [Nat.add_mul, Nat.one_mul, ← HK.out]; exact hKn)
        unfold Ints
        rw [hrl]
        exact Hrow.out.congr fun j hj => by rw [iv, iv, rowAt_getD hj, HK.out]
      have Hri := Lib.hid hri
      have hlen : ((rowsOf R C D).take k).length = k := by rw [List.length_take, rowsOf_length]; omega
      have Hlen := Lib.hid hlen
      rw [hlen] at g1 g2 g3
      have hrow1 : (rowAt C D k).length ≤ 1000000 := by rw [rowAt_length (by rw [Nat.add_mul, Nat.one_mul, ← HK.out]; exact hKn)]; omega
      have G1 := Lib.hid g1
      have G2 := Lib.hid g2
      have G3 := Lib.hid g3
      have hsz := hb.size
      simp only [size_alloc] at hsz
      have Hb1 := Lib.hid (show k + 1 ≤ maxLen by unfold maxLen; omega)
      have Hb2 := Lib.hid (show (k + 1) * 24 ≤ 140737488355328 by omega)
      clear g1 g2 g3 hlen hri hrow1
      go_wp2_with (at_builtin; fail)
      refine (clone_any _ _ _ Hri.out (by rw [rowAt_length (by rw [Nat.add_mul, Nat.one_mul, ← HK.out]; exact hKn)]; omega)).mono ?_
      rintro e w1 ⟨u, rfl, ho, hb1⟩
      obtain ⟨up, ucap, rfl, _, _⟩ := ho.shape
      have Ho := Lib.hid ho
      have G1' := Lib.hid fun o => (G1.out.below hb1).below (below_alloc w1 o)
      have hsz1 := hb1.size
      have Hb := Lib.hid hb
      have Hb1' := Lib.hid hb1
      clear ho r1 r2 hb hb1 c0 c1 c2 c3 cf hz
      go_wp2_with (at_builtin; go_must (refine wpList_append_F rfl (.tmp 11) (.tmp 25) 42 rfl 24 (.slice none 0 0) 24 Try.underlying42 info_sl rfl (w.heap.size + 1) wr.heap.size u3 k f rfl (G1'.out _) (by simp; omega) (by simp; omega) _ _ _ rfl (rd_one _ _ _ rfl) (fun j _ => rfl) Hb1.out Hb2.out ?_; intro v' w' ho' hg'))
      have hs := hg'.size
      simp only [size_alloc] at hs
      go_roundg (R - (k + 1))
      case measure => omega
      case rel =>
        refine ⟨k + 1, by omega, rfl, by go_num, (Hb.out.trans ((Hb1'.out.trans (below_alloc w1 _ |>.mono hsz1)).mono hsz)).trans (grownBy_below hg' (G1'.out default).blocks (Nat.le_refl _) (by simp; omega)), ?_⟩
        have ht : (rowsOf R C D).take (k + 1) = (rowsOf R C D).take k ++ [rowAt C D k] := by
          rw [List.take_succ_eq_append_getElem (by rw [rowsOf_length]; exact hlt)]
          simp [rowsOf]
        rw [ht]
        refine OwnII.snoc (mid := wr.heap.size) (hi := w1.heap.size) (f := f) ?_ ?_ ?_ (Ho.out.below (below_alloc w1 _)) (by omega) hsz1 (by decide) hg' (by omega) ?_
        · rw [Hlen.out]; exact G1'.out _
        · rw [Hlen.out]; exact fun i hi => ((G2.out i hi).below Hb1'.out).below (below_alloc w1 _)
        · rw [Hlen.out]; exact G3.out
        · rw [Hlen.out]; exact ho'
    · obtain rfl : k = R := by omega
      rw [List.take_of_length_le (by rw [rowsOf_length]; exact Nat.le_refl _)] at g1 g2 g3
      have HII := Lib.hid (show OwnII 24 3 wr (w.heap.size + 1) wr.heap.size u3 (rowsOf k C D) from ⟨f, g1, g2, g3⟩)
      clear g1 g2 g3
      go_wp2_with fail
      go_ret
      exact ⟨_, rfl, HII.out.mono (by omega) (Nat.le_refl _), (below_alloc w _).trans (hb.mono (by omega))⟩

end Go.Proofs.Ytoodgbflaaabmaa

namespace Go.Proofs.Ytoodgbflaaabmaa
set_option linter.all false
open Go.RowKit

/-- a multiple of a row added to another one, number by number, modulo p -/
def addRowL (p k : Int) (xs ys : List Int) : List Int := (List.range xs.length).map fun (j : Nat) => (xs.getD j 0 + k * ys.getD j 0) % p
theorem addRowL_length (p k : Int) (xs ys : List Int) : (addRowL p k xs ys).length = xs.length := by simp [addRowL]
theorem addRowL_getD {p k : Int} {xs ys : List Int} {j : Nat} (h : j < xs.length) : (addRowL p k xs ys).getD j 0 = (xs.getD j 0 + k * ys.getD j 0) % p := by
  simp [addRowL, List.getD_eq_getElem?_getD, h]

/-- all numbers small, none below 0 -/
def Small (xs : List Int) : Prop := ∀ x ∈ xs, 0 ≤ x ∧ x ≤ 1000
theorem Small.at_ {xs : List Int} (h : Small xs) (j : Nat) : 0 ≤ xs.getD j 0 ∧ xs.getD j 0 ≤ 1000 := by
  by_cases hj : j < xs.length
  · exact h _ (getD_mem hj)
  · simp [List.getD_eq_getElem?_getD, show xs[j]? = none by simp; omega]

theorem grownBy_frm {w w' : World} {v : Value} {lo hi : Nat} (h : w.grownBy w' v.ownBlock) (hlo : ∀ k, v.ownBlock = some k → lo ≤ k ∧ k < hi) : Frm lo hi w w' :=
  ⟨h.os, h.tape, h.output, h.size, fun k hk ho => h.block k hk fun e => by have := hlo k e.symm; omega⟩

set_option maxRecDepth 100000 in
set_option maxHeartbeats 1000000 in
theorem addRow_any (v u : Value) (xs ys : List Int) (k p : Int) (lo hi : Nat) (w : World) (h : OwnI 3 w lo hi v xs) (hu : Ints w u ys) (hne : ∀ b, v.ownBlock = some b → u.ownBlock ≠ some b)
    (hl : xs.length ≤ ys.length) (hxs : Small xs) (hys : Small ys) (hk : 0 ≤ k ∧ k ≤ 1000) (hp : 1 ≤ p ∧ p ≤ 1000) :
    Calls Try.prog 42 #[v, .int .i64 k, u, .int .i64 p] w fun e w' => e = .returned (.tuple #[]) ∧ OwnI 3 w' lo hi v (addRowL p k xs ys) ∧ w.grownBy w' v.ownBlock := by
  obtain ⟨a, cap, rfl, hnc, hcm, _⟩ := h.fn.shape
  unfold maxLen at hcm
  obtain ⟨q, capu, rfl, ⟨hu1, hu2⟩, huc⟩ := hu
  unfold maxLen at hu2
  have Hf := Lib.hid h.fn
  have Hne := Lib.hid hne
  have Huc := Lib.hid huc
  have Hk := Lib.hid hk
  have Hp := Lib.hid hp
  have Hxs := Lib.hid hxs
  have Hys := Lib.hid hys
  clear hne huc hk hp hxs hys h
  go_enter Try.func42, Try.ntmps42
  go_wp2_with fail
  go_loopg [11] xs.length (fun g i wr => ∃ j : Nat, j ≤ xs.length ∧ g = xs.length - j ∧ i = .int .i64 j ∧ World.grownBy w wr (Value.ownBlock (.slice a xs.length cap)) ∧
    OwnF wr lo hi 3 (.slice a xs.length cap) xs.length (fun t => if t < j then .int .i64 ((xs.getD t 0 + k * ys.getD t 0) % p) else iv xs t))
  case atStart => exact ⟨0, Nat.zero_le _, rfl, rfl, World.grownBy.refl _ _, Hf.out.congr fun t _ => by simp⟩
  case round =>
    obtain ⟨j, hj, rfl, rfl, hg, hr⟩ := hrel
    by_cases hlt : j < xs.length
    · obtain ⟨g, rfl, hg1, hg2, hg3⟩ := hr.at_ (by omega)
      obtain ⟨b, off, rfl, hc⟩ := Huc.out (by omega)
      have hbg : b ≠ g := fun e => Hne.out g rfl (by simp [Value.ownBlock, e])
      obtain ⟨x, hx⟩ : ∃ x, x = xs.getD j 0 := ⟨_, rfl⟩
      obtain ⟨y, hy⟩ : ∃ y, y = ys.getD j 0 := ⟨_, rfl⟩
      have c1 : wr.cell? ⟨g, j, none⟩ = some (.int .i64 x) := by rw [hr.cell hlt]; simp [iv, hx]
      have c2 : wr.cell? ⟨b, off + j, none⟩ = some (.int .i64 y) := by
        have h0 := hc j (by omega)
        rw [World.cell?_of_block (w := w) (hg.block b (World.block_lt_of_cell? _ _ h0) (by simp [Value.ownBlock]; exact hbg)), h0, iv, hy]
      have c3 := hr.frozen j
      have hju : j < ys.length := by omega
      have sx := Hxs.out.at_ j
      have sy := Hys.out.at_ j
      rw [← hx] at sx
      rw [← hy] at sy
      have hkk := Hk.out
      have hpp := Hp.out
      have hm0 : 0 ≤ k * y := Int.mul_nonneg hkk.1 sy.1
      have hm1 : k * y ≤ 1000 * 1000 := Int.mul_le_mul hkk.2 sy.2 sy.1 (by omega)
      have b1 : -1000000000000000000 ≤ k * y := by omega
      have b2 : k * y ≤ 1000000000000000000 := by omega
      have b3 : -1000000000000000000 ≤ x + k * y := by omega
      have b4 : x + k * y ≤ 1000000000000000000 := by omega
      have hnn : 0 ≤ x + k * y := by omega
      have hp0 : ¬ p = 0 := by omega
      have e1 : Int.tmod (x + k * y) p = (x + k * y) % p := Int.tmod_eq_emod_of_nonneg hnn
      have b5 : 0 ≤ (x + k * y) % p := Int.emod_nonneg _ (by omega)
      have b6 : (x + k * y) % p < p := Int.emod_lt_of_pos _ (by omega)
      have b7 : -1000000000000000000 ≤ (x + k * y) % p := by omega
      have b8 : (x + k * y) % p ≤ 1000000000000000000 := by omega
      have Hx := Lib.hid hx
      have Hy := Lib.hid hy
      have E1 := Lib.hid e1
      have Hg := Lib.hid hg
      have Hr := Lib.hid hr
      have f1 := k64 b1 b2
      have f2 := k64 b3 b4
      have f3 := k64 b7 b8
      clear hx hy hc sx sy hm0 hm1 b1 b2 b3 b4 b5 b6 b7 b8 hg hr e1 hkk hpp
      go_wp2_with fail
      go_still_tail 16, (by kernel_rfl)
      change wpList _ _ _ _ _ wr.drew
      clear f1 f2 f3
      go_wp2_with fail
      go_roundg (xs.length - (j + 1))
      case measure => omega
      case rel =>
        refine ⟨j + 1, by omega, rfl, by go_num, ?_, OwnF.congr (f := fun t => if t = j then .int .i64 ((x + k * y) % p) else if t < j then .int .i64 ((xs.getD t 0 + k * ys.getD t 0) % p) else iv xs t) ?_ fun t ht => ?_⟩
        · exact ⟨Hg.out.os, Hg.out.tape, Hg.out.output, by simpa [World.setCell] using Hg.out.size, fun i hi hne => (Below.heap_setCell _ _ _ _ (by simpa [Value.ownBlock] using hne)).trans (Hg.out.block i hi hne)⟩
        · exact (Hr.out.set j _).keep fun _ _ _ _ => rfl
        · by_cases e : t = j
          · subst e
            simp only [if_true, show t < t + 1 by omega]
            rw [Hx.out, Hy.out]
          · by_cases e2 : t < j
            · simp only [e, if_false, e2, if_true, show t < j + 1 by omega]
            · simp only [e, if_false, e2, show ¬ t < j + 1 by omega]
    · go_wp2_with fail
      go_end0
      refine ⟨rfl, OwnF.ints ?_, hg⟩
      obtain rfl : j = xs.length := by omega
      rw [addRowL_length]
      exact hr.congr fun t ht => by simp only [ht, if_true]; rw [iv, addRowL_getD ht]

end Go.Proofs.Ytoodgbflaaabmaa

namespace Go.Proofs.Ytoodgbflaaabmaa
set_option linter.all false
open Go.RowKit

set_option maxRecDepth 100000 in
set_option maxHeartbeats 1000000 in
theorem l7At_any (P R : Int) (C i j : Nat) (d : Value) (D : List Int) (w : World) (h : Ints w d D) (hC : i * C + j < D.length) (hD : D.length ≤ 1000000) :
    Calls Try.prog 90 #[.agg #[.int .i64 P, .int .i64 R, .int .i64 (C : Int), d], .int .i64 (i : Int), .int .i64 (j : Int)] w fun e w' =>
      e = .returned (.int .i64 (D.getD (i * C + j) 0)) ∧ Below w.heap.size w w' := by
  obtain ⟨q, capu, rfl, ⟨hu1, hu2⟩, huc⟩ := h
  unfold maxLen at hu2
  obtain ⟨b, off, rfl, hc⟩ := huc (by omega)
  have c1 : w.cell? ⟨b, off + (i * C + j), none⟩ = some (.int .i64 (D.getD (i * C + j) 0)) := by rw [hc _ hC, iv]
  have hb := World.block_lt_of_cell? _ _ c1
  obtain ⟨z, hz⟩ : ∃ z, z = D.getD (i * C + j) 0 := ⟨_, rfl⟩
  rw [← hz] at c1 ⊢
  clear huc hc hz
  go_enter Try.func90, Try.ntmps90
  go_wp2_with fail
  go_ret
  exact ⟨rfl, below_alloc _ _⟩

end Go.Proofs.Ytoodgbflaaabmaa
