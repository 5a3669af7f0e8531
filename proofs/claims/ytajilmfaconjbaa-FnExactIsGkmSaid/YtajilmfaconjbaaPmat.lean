/-
  PermMatrix, the reference's and the program's: both give the matrix with 1 where the permutation says.
-/
import Derived.Test.YtajilmfaconjbaaLawM
import Derived.Test.YtajilmfaconjbaaPerm
import Derived.Test.YtajilmfaconjbaaList
import Derived.Test.YtajilmfaconjbaaConcat
import Derived.StillTailTactics
namespace Go.Proofs.Ytajilmfaconjbaa
set_option linter.all false
open Go.RowKit

def primeOk (p : Int) : Bool := decide (p = 2 ∨ p = 3 ∨ p = 5 ∨ p = 7)

theorem info_mx : (Try.prog.info? 29).map (fun i => (i.zero, i.size, i.bytes)) = some (some (.agg #[.int .i64 0, .int .i64 0, .int .i64 0, .slice none 0 0]), 4, 48) := by kernel_rfl

set_option maxRecDepth 100000 in
set_option maxHeartbeats 1000000 in
theorem l7Perm_any (p : Int) (v : Value) (xs : List Int) (w : World) (h : Ints w v xs) (hp : permOk xs = true) :
    Calls Try.prog 35 #[.int .i64 p, v] w fun e w' =>
      ∃ u, e = .returned (.agg #[.int .i64 p, .int .i64 xs.length, .int .i64 xs.length, u]) ∧ OwnI 3 w' w.heap.size w'.heap.size u (permRows xs).flatten ∧ Below w.heap.size w w' := by
  have hw := Lib.hid h
  obtain ⟨q, cap, rfl, ⟨hx1, hx⟩, hxc⟩ := h
  obtain ⟨hl1, hl7, hr, _⟩ := of_decide_eq_true hp
  have Hp := Lib.hid hp
  clear hp
  have hsq : xs.length * xs.length ≤ 7 * 7 := Nat.mul_le_mul hl7 hl7
  obtain ⟨N, hN, hwr, hwk⟩ := mul_named xs.length xs.length (by omega)
  have hN49 : N ≤ 49 := by omega
  have HN := Lib.hid hN
  have Hr := Lib.hid hr
  have hmk := run_make_row' (P := Try.prog) 22 3 (.int .i64 0) 8 Try.underlying22 info_int rfl .i64 .i64 N (by omega) (by omega)
  clear hr hsq hN
  unfold maxLen at hx
  have Hxc := Lib.hid hxc
  clear hxc
  go_enter Try.func35, Try.ntmps35
  go_wp2
  clear hmk hwr hwk
  go_loopg [7] xs.length (fun g i wr => ∃ k : Nat, k ≤ xs.length ∧ g = xs.length - k ∧ i = .int .i64 k ∧ Below w.heap.size w wr ∧
    wr.heap[w.heap.size]? = some (.cells #[.int .i64 0, .int .i64 0, .int .i64 0, .slice none 0 0] 29) ∧
    wr.heap[w.heap.size + 1 + 1]? = some (.cells #[.int .i64 p, .int .i64 xs.length, .int .i64 xs.length, .slice (some ⟨w.heap.size + 1, 0, none⟩) N N] 29) ∧
    wr.rowIs (w.heap.size + 1) 3 N (fun t => .int .i64 (if t / xs.length < k ∧ ((t % xs.length : Nat) : Int) = xs.getD (t / xs.length) 0 then 1 else 0)))
  case atStart =>
    refine ⟨0, Nat.zero_le _, rfl, rfl, below_alloc3 _ _ _ _, ?_, ?_, ?_⟩
    · rw [heap_alloc_low _ _ (by simp; omega), heap_alloc_low _ _ (by simp)]; exact heap_alloc_top _ _
    · exact heap_alloc_at _ _ (by simp)
    · have := World.rowIs_made (w.alloc (.cells #[.int .i64 0, .int .i64 0, .int .i64 0, .slice none 0 0] 29)) (.int .i64 0) N 3
      rw [size_alloc] at this
      exact (this.alloc _).congr fun j _ => by simp
  case round =>
    obtain ⟨k, hk, rfl, rfl, hb, hB0, hB2, hrow⟩ := hrel
    by_cases hlt : k < xs.length
    · obtain ⟨b, off, rfl, hc⟩ := Hxc.out (by omega)
      have hx0 := Hr.out _ (getD_mem hlt)
      obtain ⟨m, hm⟩ := Int.eq_ofNat_of_zero_le hx0.1
      have c1 : wr.cell? ⟨b, off + k, none⟩ = some (.int .i64 (m : Int)) := by
        rw [hb.cell (p := ⟨b, off + k, none⟩) (World.block_lt_of_cell? _ _ (hc k hlt)), hc k hlt]; simp only [iv, hm]
      have hml : m < xs.length := by omega
      have hKn : k * xs.length + m < N := by
        have := HN.out
        have h2 := Nat.mul_le_mul_right xs.length hlt
        rw [Nat.succ_mul] at h2
        omega
      obtain ⟨K, hK, hkr, hkk⟩ := mul_named k xs.length (by omega)
      have Hkr := Lib.hid hkr
      have Hkk := Lib.hid hkk
      clear hkr hkk
      have HK := Lib.hid hK
      have hKm : K + m < N := by omega
      have hb0 : -1000000000000000000 ≤ (K : Int) + (m : Int) := by omega
      have hb1 : (K : Int) + (m : Int) ≤ 1000000000000000000 := by omega
      have Hm := Lib.hid hm
      have hi0 : (0 : Int) ≤ (K : Int) + m := by omega
      have hi1 : (K : Int) + m < (N : Int) := by omega
      have hi2 : ((K : Int) + (m : Int)).toNat = K + m := by omega
      obtain ⟨z, c3⟩ : ∃ z, wr.cell? ⟨w.heap.size + 1, K + m, none⟩ = some (.int .i64 z) := ⟨_, hrow.cell hKm⟩
      have c4 := hrow.frozen (K + m)
      obtain ⟨c20, c21, c22, c23, c2f, hz2⟩ := blk4 hB2
      have Hrow := Lib.hid hrow
      have HB0 := Lib.hid hB0
      have HB2 := Lib.hid hB2
      clear hc hx0 hm hK hKn hrow hB0 hB2
      have hkr := Hkr.out
      have hkk := Hkk.out
      have hs1 := w64 hb0 hb1
      have hs2 := k64 hb0 hb1
      clear hb0 hb1
      go_wp2
      go_still_tail 11, (by kernel_rfl)
      change wpList _ _ _ _ _ wr.drew
      go_wp2
      clear hkr hkk hs1 hs2
      go_roundg (xs.length - (k + 1))
      case measure => omega
      case rel =>
        refine ⟨k + 1, by omega, rfl, by go_num, (hb.setCell (by simp) _).drew, ?_, ?_, ((Hrow.out.set (K + m) _).congr fun t ht => ?_).drew⟩
        · exact (Below.heap_setCell _ _ _ _ (by simp)).trans HB0.out
        · exact (Below.heap_setCell _ _ _ _ (by simp)).trans HB2.out
        · rw [← pm_step Hm.out hml, ← HK.out]
          by_cases e : t = K + m <;> simp [e]
    · obtain ⟨c20, c21, c22, c23, c2f, hz2⟩ := blk4 hB2
      obtain ⟨c00, c01, c02, c03, c0f, hz0⟩ := blk4 hB0
      obtain rfl : k = xs.length := by omega
      have Hrow := Lib.hid hrow
      clear hrow hB0 hB2
      go_wp2
      have hown : OwnI 3 wr (w.heap.size + 1) (w.heap.size + 1 + 1) (.slice (some ⟨w.heap.size + 1, 0, none⟩) N N) (permRows xs).flatten := by
        have hl : (permRows xs).flatten.length = N := by rw [permRows_flat_length]; exact HN.out.symm
        refine OwnF.ints ?_
        rw [hl]
        refine OwnF.mk' (Hrow.out) (Nat.le_refl _) (by omega) (Nat.le_refl _) (by unfold maxLen; omega) fun t ht => ?_
        have ht' : t < xs.length * xs.length := by rw [← HN.out]; exact ht
        rw [iv, permRows_flat_getD ht']
        have hd : t / xs.length < xs.length := Nat.div_lt_of_lt_mul ht'
        simp [hd]
      refine bodyPost_ret (v := .agg #[.int .i64 p, .int .i64 xs.length, .int .i64 xs.length, .slice (some ⟨w.heap.size + 1, 0, none⟩) N N]) (by simp [results, Try.results35, go_sem, c00, c01, c02, c03, hz0]) rfl ⟨_, rfl, ?_, ?_⟩
      · exact (own_set4 hown (.inl (by omega)) _ _ _ _).mono (by omega) (by simp only [size_setCell]; omega)
      · exact below_set4 hb (Nat.le_refl _) _ _ _ _

def permMx (p : Int) (xs : List Int) : Mx := if primeOk p && permOk xs then ⟨p, xs.length, xs.length, (permRows xs).flatten⟩ else mxZero

theorem specIsPerm_b (v : Value) (xs : List Int) (b : Bool) (hb : permOk xs = b) (w : World) (h : Ints w v xs) :
    Calls Try.prog 78 #[v] w fun e w' => e = .returned (.bool b) ∧ Qt w w' := hb ▸ specIsPerm_any v xs w h
theorem implIsPerm_b (v : Value) (xs : List Int) (b : Bool) (hb : permOk xs = b) (w : World) (h : Ints w v xs) :
    Calls Try.prog 40 #[v] w fun e w' => e = .returned (.bool b) ∧ Below w.heap.size w w' := hb ▸ implIsPerm_any v xs w h

/-- the block of the result, still zero -/
theorem zero_blk {w w1 : World} {T : TypeId} {x0 x1 x2 x3 : Value} (hb : Below (w.alloc (.cells #[x0, x1, x2, x3] T)).heap.size (w.alloc (.cells #[x0, x1, x2, x3] T)) w1) :
    w1.heap[w.heap.size]? = some (.cells #[x0, x1, x2, x3] T (0, 0)) ∧ Below w.heap.size w w1 := by
  refine ⟨?_, (below_alloc w _).trans (hb.mono (by simp))⟩
  rw [hb.block _ (by simp)]; exact heap_alloc_top _ _

theorem permMx_no {p : Int} {xs : List Int} (h : primeOk p = false ∨ permOk xs = false) : permMx p xs = mxZero := by
  unfold permMx
  rcases h with h | h <;> simp [h]
theorem permMx_yes {p : Int} {xs : List Int} (h1 : primeOk p = true) (h2 : permOk xs = true) : permMx p xs = ⟨p, xs.length, xs.length, (permRows xs).flatten⟩ := by simp [permMx, h1, h2]

set_option maxHeartbeats 400000 in
theorem isPrime_b (p : Int) (b : Bool) (hb : primeOk p = b) (w : World) :
    Calls Try.prog 39 #[.int .i64 p] w fun e w' => e = .returned (.bool b) ∧ w = w' := by
  subst hb
  by_cases h2 : p = 2
  · subst h2
    go_enter Try.func39, Try.ntmps39
    go_wp2
    go_ret
    exact ⟨rfl, rfl⟩
  by_cases h3 : p = 3
  · subst h3
    go_enter Try.func39, Try.ntmps39
    go_wp2
    go_ret
    exact ⟨rfl, rfl⟩
  by_cases h5 : p = 5
  · subst h5
    go_enter Try.func39, Try.ntmps39
    go_wp2
    go_ret
    exact ⟨rfl, rfl⟩
  by_cases h7 : p = 7
  · subst h7
    go_enter Try.func39, Try.ntmps39
    go_wp2
    go_ret
    exact ⟨rfl, rfl⟩
  · have e2 : (p == 2) = false := by simp [h2]
    have e3 : (p == 3) = false := by simp [h3]
    have e5 : (p == 5) = false := by simp [h5]
    have e7 : (p == 7) = false := by simp [h7]
    go_enter Try.func39, Try.ntmps39
    go_wp2
    go_ret
    exact ⟨ret_bool (by simp [primeOk, h2, h3, h5, h7]), rfl⟩

set_option maxRecDepth 100000 in
set_option maxHeartbeats 1000000 in
theorem implPermMatrix_any (p : Int) (v : Value) (xs : List Int) (w : World) (h : Ints w v xs) :
    Calls Try.prog 13 #[.int .i64 p, v] w (RetM w (permMx p xs)) := by
  have h1 := fun o => h.below (below_alloc w o)
  have H1 := Lib.hid h1
  clear h1
  cases hp : primeOk p with
  | false =>
    have Hm := Lib.hid (permMx_no (xs := xs) (.inl hp))
    have Hp := Lib.hid hp
    clear hp h
    go_enter Try.func13, Try.ntmps13
    go_wp2_with (go_at_call 39; refine (isPrime_b _ _ Hp.out _).mono ?_; rintro e w' ⟨rfl, rfl⟩)
    rw [Hm.out]
    refine bodyPost_ret (v := .agg #[.int .i64 0, .int .i64 0, .int .i64 0, .slice none 0 0]) (by simp [results, Try.results13, go_sem]) rfl ⟨_, rfl, ?_, ?_⟩
    · exact ⟨World.ownsRow_nil _ _ _ _, fun k hk => by simp [Value.ownBlock] at hk⟩
    · exact below_alloc w _
  | true =>
    have Hp := Lib.hid hp
    cases hx : permOk xs with
    | false =>
      have Hm := Lib.hid (permMx_no (p := p) (.inr hx))
      have Hx := Lib.hid hx
      clear hp hx h
      go_enter Try.func13, Try.ntmps13
      go_wp2_with (first
        | (go_at_call 39; refine (isPrime_b _ _ Hp.out _).mono ?_; rintro e w' ⟨rfl, rfl⟩)
        | (go_at_call 40; refine (implIsPerm_b _ xs _ Hx.out _ (H1.out _)).mono ?_; rintro e w1 ⟨rfl, hb⟩; obtain ⟨hz0, hbw⟩ := zero_blk hb; obtain ⟨c00, c01, c02, c03, c0f, hz⟩ := blk4 hz0; clear hz0 hb))
      rw [Hm.out]
      refine bodyPost_ret (v := .agg #[.int .i64 0, .int .i64 0, .int .i64 0, .slice none 0 0]) (by simp [results, Try.results13, go_sem, c00, c01, c02, c03, hz]) rfl ⟨_, rfl, ?_, ?_⟩
      · exact ⟨World.ownsRow_nil _ _ _ _, fun k hk => by simp [Value.ownBlock] at hk⟩
      · exact below_set4 hbw (Nat.le_refl _) _ _ _ _
    | true =>
      have Hm := Lib.hid (permMx_yes hp hx)
      have Hx := Lib.hid hx
      obtain ⟨hl1, hl7, hr, _⟩ := of_decide_eq_true hx
      have Hr := Lib.hid hr
      clear hp hx h hr
      obtain ⟨q, cap, rfl, ⟨hx1, hx2⟩, hxc⟩ := H1.out default
      clear hxc
      unfold maxLen at hx2
      go_enter Try.func13, Try.ntmps13
      go_wp2_with (first
        | (go_at_call 39; refine (isPrime_b _ _ Hp.out _).mono ?_; rintro e w' ⟨rfl, rfl⟩)
        | (go_at_call 40; refine (implIsPerm_b _ xs _ Hx.out _ (H1.out _)).mono ?_; rintro e w1 ⟨rfl, hb⟩; have H2 := Lib.hid ((H1.out _).below hb); obtain ⟨hz0, hbw⟩ := zero_blk hb; have Hz0 := Lib.hid hz0; clear hz0 hb))
      have hmk := run_make_row' (P := Try.prog) 22 3 (.int .i64 0) 8 Try.underlying22 info_int rfl .i64 .i64 xs.length (by omega) (by omega)
      have Hmk := Lib.hid hmk
      clear hmk
      go_loopg [5, 21] xs.length (fun g s5 i wr => ∃ k : Nat, k ≤ xs.length ∧ g = xs.length - k ∧ i = .int .i64 k ∧ Below w1.heap.size w1 wr ∧
        OwnII 22 3 wr w1.heap.size wr.heap.size s5 ((permRows xs).take k))
      case atStart =>
        exact ⟨0, Nat.zero_le _, rfl, rfl, below_alloc _ _, fun _ => undef, (OwnF.made0 w1 22 _).mono (Nat.le_refl _) (by simp), fun i hi => absurd hi (by simp), fun i j _ hj => absurd hj (by simp)⟩
      case round =>
        obtain ⟨k, hk, rfl, rfl, hb, f, g1, g2, g3⟩ := hrel
        by_cases hlt : k < xs.length
        · obtain ⟨_, _, e, _, hxc⟩ := H2.out
          injection e with e1 e2 e3
          subst e1 e3
          obtain ⟨b, off, rfl, hc⟩ := hxc (by omega)
          have hx0 := Hr.out _ (getD_mem hlt)
          obtain ⟨m, hm⟩ := Int.eq_ofNat_of_zero_le hx0.1
          have c1 : wr.cell? ⟨b, off + k, none⟩ = some (.int .i64 (m : Int)) := by
            rw [hb.cell (p := ⟨b, off + k, none⟩) (World.block_lt_of_cell? _ _ (hc k hlt)), hc k hlt]; simp only [iv, hm]
          have hml : m < xs.length := by omega
          have Hm' := Lib.hid hm
          have hmk := Hmk.out
          clear hxc hx0 hc hm
          have hcm : (madeCells #[Value.int .i64 0] xs.length)[m]? = some (.int .i64 0) := by simp [madeCells, hml, Nat.mod_one]
          have hlen : ((permRows xs).take k).length = k := by rw [List.length_take, permRows_length]; omega
          rw [hlen] at g1 g2 g3
          have G1 := Lib.hid g1
          have G2 := Lib.hid g2
          have G3 := Lib.hid g3
          have hsz := hb.size
          have hk7 : k + 1 ≤ 7 := by omega
          have Hb1 := Lib.hid (show k + 1 ≤ maxLen by unfold maxLen; omega)
          have Hb2 := Lib.hid (show (k + 1) * 24 ≤ 140737488355328 by omega)
          have hO := Lib.hid fun o o' => g1.below (below_alloc2 wr o o')
          have Hlen := Lib.hid hlen
          clear g1 g2 g3 hlen
          go_wp2_with (at_builtin; go_must (refine wpList_append_F rfl (.tmp 31) (.tmp 33) 40 rfl 22 (.slice none 0 0) 24 Try.underlying40 info_sl rfl w1.heap.size wr.heap.size u5 k f rfl (hO.out _ _) (by simp; omega) (by simp; omega) _ _ _ rfl (rd_one _ _ _ (by simp)) (fun j _ => rfl) Hb1.out Hb2.out ?_; intro v' w' ho' hg'))
          clear hmk hcm
          have hrow : OwnI 3 ((wr.alloc (.cells ((madeCells #[Value.int .i64 0] xs.length).setIfInBounds m (.int .i64 1)) 3)).alloc (.cells #[.slice (some ⟨wr.heap.size, 0, none⟩) xs.length xs.length] 22)) wr.heap.size (wr.heap.size + 1)
              (.slice (some ⟨wr.heap.size, 0, none⟩) xs.length xs.length) (unitRow xs.length (xs.getD k 0)) := by
            have hu := unitRow_length xs.length (xs.getD k 0)
            refine OwnF.ints ?_
            rw [hu]
            have hr0 : World.rowIs (wr.alloc (.cells ((madeCells #[Value.int .i64 0] xs.length).setIfInBounds m (.int .i64 1)) 3)) wr.heap.size 3 xs.length (fun j => .int .i64 (if j = m then 1 else 0)) := by
              have := World.rowIs_alloc wr ((madeCells #[Value.int .i64 0] xs.length).setIfInBounds m (.int .i64 1)) 3 (fun j => .int .i64 (if j = m then 1 else 0)) (fun i hi => by
                simp [madeCells] at hi
                by_cases e : i = m
                · subst e; simp [madeCells, hml]
                · simp [madeCells, Array.getElem?_setIfInBounds, hi, e, Nat.mod_one, show ¬ m = i by omega])
              simpa [madeCells] using this
            refine OwnF.mk' (hr0.alloc _) (Nat.le_refl _) (by omega) (Nat.le_refl _) (by unfold maxLen; omega) fun j hj => ?_
            rw [iv, unitRow_getD hj, Hm'.out]
            by_cases e : j = m
            · subst e; simp
            · rw [if_neg e, if_neg (by omega)]
          go_roundg (xs.length - (k + 1))
          case measure => omega
          case rel =>
            refine ⟨k + 1, by omega, rfl, by go_num, (hb.trans (below_alloc2 wr _ _ |>.mono hsz)).trans (grownBy_below hg' (hO.out default default).blocks (Nat.le_refl _) (by simp; omega)), ?_⟩
            rw [permRows_take_succ hlt]
            have hs := hg'.size
            simp only [size_alloc] at hs
            refine OwnII.snoc (mid := wr.heap.size) (hi := wr.heap.size + 1) (f := f) ?_ ?_ ?_ hrow hsz (by omega) (by decide) hg' (by omega) ?_
            · rw [Hlen.out]; exact hO.out _ _
            · rw [Hlen.out]; exact fun i hi => (G2.out i hi).below (below_alloc2 wr _ _)
            · rw [Hlen.out]; exact G3.out
            · rw [Hlen.out]; exact ho'
        · obtain rfl : k = xs.length := by omega
          rw [List.take_of_length_le (by rw [permRows_length]; exact Nat.le_refl _)] at g1 g2 g3
          have hII : OwnII 22 3 wr w1.heap.size wr.heap.size u5 (permRows xs) := ⟨f, g1, g2, g3⟩
          have hz2 := blk_later Hz0.out (hb.mono (Nat.le_refl _))
          have hfl : (permRows xs).flatten.length ≤ 1000000 := by
            rw [permRows_flat_length]
            have := Nat.mul_le_mul hl7 hl7
            omega
          have HII := Lib.hid hII
          have Hz2 := Lib.hid hz2
          have Hfl := Lib.hid hfl
          clear hII hz2 g1 g2 g3 hfl
          go_wp2_with (go_at_call 41; refine (matrixOf_any _ _ _ _ _ HII.out.rd Hfl.out).mono ?_; rintro e w2 ⟨u, rfl, ho, hb2⟩; obtain ⟨c00, c01, c02, c03, c0f, hz⟩ := blk4 (blk_later Hz2.out hb2); obtain ⟨up, ucap, rfl, _, _⟩ := ho.shape; have Ho := Lib.hid ho; clear ho)
          rw [Hm.out]
          have hz1 := blk_lt Hz0.out
          have hz3 := hb.size
          refine bodyPost_ret (v := .agg #[.int .i64 p, .int .i64 xs.length, .int .i64 xs.length, .slice up (permRows xs).flatten.length ucap]) (by simp [results, Try.results13, go_sem, c00, c01, c02, c03, hz, permRows_length]) rfl ⟨_, rfl, ?_, ?_⟩
          · exact (own_set4 Ho.out (.inl (by omega)) _ _ _ _).mono (by omega) (by simp only [size_setCell]; omega)
          · exact below_set4 ((hbw.trans (hb.mono (by omega))).trans (hb2.mono (by omega))) (Nat.le_refl _) _ _ _ _

theorem permMx_len (p : Int) (xs : List Int) : (permMx p xs).D.length ≤ 1000000 := by
  unfold permMx
  split
  · rename_i h
    simp only [Bool.and_eq_true] at h
    obtain ⟨_, h7, _⟩ := of_decide_eq_true h.2
    show (permRows xs).flatten.length ≤ _
    rw [permRows_flat_length]
    have := Nat.mul_le_mul h7 h7
    omega
  · simp [mxZero]

end Go.Proofs.Ytajilmfaconjbaa
