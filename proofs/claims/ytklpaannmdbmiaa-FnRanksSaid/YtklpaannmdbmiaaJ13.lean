/-
  The draws: a matrix and a permutation for the laws on ranks: what is kept.
  spec.DrawRanks: a matrix and a permutation. (Printed by gen_drk.py.)
  The reference's length of a permutation; words as numbers.
  The draws: a reduced word, a word played, two permutations.
  The draws: a reduced word, two permutations.
-/
import Derived.Test.YtklpaannmdbmiaaJ10
import Derived.Test.YtklpaannmdbmiaaJ2
import Derived.Test.YtklpaannmdbmiaaJ4
import Derived.Test.YtklpaannmdbmiaaJ11
import Derived.Test.YtklpaannmdbmiaaJ5
import Derived.Test.YtklpaannmdbmiaaJ12
import Derived.StillTailTactics
namespace Go.Proofs.Ytklpaannmdbmiaa
set_option linter.all false
open Go.RowKit

abbrev BoxZ : Obj := .cells #[.int .i64 0, .int .i64 0, .int .i64 0, .slice none 0 0] 26 (0, 0)
/-- the result's box, the matrix under way with its row, the permutation, the cursor -/
structure RkS (w : World) (b0 k bM g kM lox hix : Nat) (P : Int) (n N : Nat) (pX : Value) (xs D : List Int) (W : World) : Prop where
  z : W.heap[b0]? = some (.cells #[.int .i64 0, .int .i64 0, .int .i64 0, .slice none 0 0] 26)
  m : W.heap[bM]? = some (.cells #[.int .i64 P, .int .i64 (n : Int), .int .i64 (n : Int), .slice (some ⟨g, 0, none⟩) N kM] 26)
  row : OwnI 3 W g (g + 1) (.slice (some ⟨g, 0, none⟩) N kM) D
  len : D.length = N
  rng : ∀ t, t < N → 0 ≤ D.getD t 0 ∧ D.getD t 0 < P
  x : OwnI 3 W lox hix pX xs
  cur : Cur W k
  bel : Below b0 w W
structure RkN (b0 k bM g lox hix : Nat) : Prop where
  a : b0 < k
  b : k < bM
  c : k < g
  d : bM ≠ g
  e : k < lox
  f : hix ≤ g
section
variable {w : World} {b0 k bM g kM lox hix : Nat} {P : Int} {n N : Nat} {pX : Value} {xs D : List Int} {W W' : World}
theorem RkS.frm (h : RkS w b0 k bM g kM lox hix P n N pX xs D W) (hn : RkN b0 k bM g lox hix) (hf : Frm k (k + 1) W W') (hc : Cur W' k) : RkS w b0 k bM g kM lox hix P n N pX xs D W' := by
  have h1 := blk_lt h.z
  have h2 := blk_lt h.m
  have a := hn.a
  have b := hn.b
  have c := hn.c
  have e := hn.e
  have h3 := hf.size
  exact ⟨(hf.block b0 h1 (.inl hn.a)).trans h.z, (hf.block bM h2 (.inr (by omega))).trans h.m, h.row.frm hf (.inr (by omega)), h.len, h.rng, h.x.frm hf (.inr (by omega)), hc, h.bel.trans (hf.below (by omega) (by omega))⟩
theorem RkS.set (h : RkS w b0 k bM g kM lox hix P n N pX xs D W) (hn : RkN b0 k bM g lox hix) {t : Nat} (ht : t < N) {v : Int} (hv : 0 ≤ v ∧ v < P) : RkS w b0 k bM g kM lox hix P n N pX xs (D.set t v) (W.setCell ⟨g, t, none⟩ (.int .i64 v)) := by
  have a := hn.a
  have b := hn.b
  have c := hn.c
  have d := hn.d
  have f := hn.f
  refine ⟨(Below.heap_setCell _ _ _ _ (show b0 ≠ (⟨g, t, none⟩ : Addr).block from by show b0 ≠ g; omega)).trans h.z, (Below.heap_setCell _ _ _ _ (show bM ≠ (⟨g, t, none⟩ : Addr).block from hn.d)).trans h.m, h.row.setG (by rw [h.len]; exact ht) v, by rw [List.length_set]; exact h.len, fun s hs => ?_, h.x.setCell (.inr (show hix ≤ g from f)) _, h.cur.keepB ((Below.refl (k + 1) W).setCell (show k + 1 ≤ g from c) _) (Nat.lt_succ_self k), h.bel.setCell (show b0 ≤ g by omega) _⟩
  have e : (D.set t v).getD s 0 = if t = s then v else D.getD s 0 := by
    simp only [List.getD_eq_getElem?_getD, List.getElem?_set]
    by_cases e1 : t = s
    · subst e1; simp [h.len, ht]
    · simp [e1]
  rw [e]
  split
  · exact hv
  · exact h.rng s hs
theorem RkS.drew (h : RkS w b0 k bM g kM lox hix P n N pX xs D W) (hn : RkN b0 k bM g lox hix) : RkS w b0 k bM g kM lox hix P n N pX xs D W.drew :=
  ⟨h.z, h.m, Own.drewN h.row 1, h.len, h.rng, Own.drewN h.x 1, h.cur.below (Below.refl _ _).drew, h.bel.drew⟩
theorem RkS.cell (h : RkS w b0 k bM g kM lox hix P n N pX xs D W) {t : Nat} (ht : t < N) : W.cell? ⟨g, t, none⟩ = some (.int .i64 (D.getD t 0)) := by
  have := h.row.fn.cell (j := t) (by rw [h.len]; exact ht)
  exact this
theorem RkS.frz (h : RkS w b0 k bM g kM lox hix P n N pX xs D W) (t : Nat) : W.frozen? ⟨g, t, none⟩ = false := h.row.fn.frozen t
theorem RkS.xcell {gx kX : Nat} (h : RkS w b0 k bM g kM lox hix P n N (.slice (some ⟨gx, 0, none⟩) n kX) xs D W) {i : Nat} (hi : i < xs.length) : W.cell? ⟨gx, i, none⟩ = some (.int .i64 (xs.getD i 0)) := by
  have := h.x.fn.cell (j := i) hi
  exact this
end
theorem l1Below_int (k : Nat) (P : Int) (w : World) (h : Cur w k) (h0 : 1 ≤ P) (hm : P ≤ 256) :
    Calls Try.prog 16 #[.pointer (some ⟨k, 0, none⟩), .int .i64 P] w fun e w' => ∃ x : Int, e = .returned (.int .i64 x) ∧ 0 ≤ x ∧ x < P ∧ Cur w' k ∧ Frm k (k + 1) w w' := by
  obtain ⟨p, rfl⟩ := Int.eq_ofNat_of_zero_le (show 0 ≤ P by omega)
  refine (l1Below_any k p w h (by omega) (by omega)).mono ?_
  rintro e w' ⟨x, rfl, hx, hc, hf⟩
  exact ⟨x, rfl, by omega, by omega, hc, hf⟩
theorem mul_small {x z P : Int} (h1 : 0 ≤ x ∧ x < P) (h2 : 0 ≤ z ∧ z < P) (hP : P ≤ 7) : 0 ≤ x * z ∧ x * z ≤ 49 := by
  refine ⟨Int.mul_nonneg h1.1 h2.1, ?_⟩
  calc x * z ≤ 7 * 7 := Int.mul_le_mul (by omega) (by omega) h2.1 (by omega)
    _ = 49 := rfl

end Go.Proofs.Ytklpaannmdbmiaa

namespace Go.Proofs.Ytklpaannmdbmiaa
set_option linter.all false
open Go.RowKit

/-- the matrix and the permutation that are drawn -/
def RkRet (w : World) (e : Ending) (w' : World) : Prop := ∃ (P : Int) (n : Nat) (u u2 : Value) (D xs : List Int), e = .returned (.tuple #[.agg #[.int .i64 P, .int .i64 (n : Int), .int .i64 (n : Int), u], u2]) ∧ primeOk P = true ∧ 1 ≤ n ∧ P5 n xs ∧ Ints w' u D ∧ D.length = n * n ∧ (∀ t, t < n * n → 0 ≤ D.getD t 0 ∧ D.getD t 0 < P) ∧ Ints w' u2 xs ∧ Below w.heap.size w w'
theorem perm_rng {P : Int} {n : Nat} {xs : List Int} (hP : 2 ≤ P) (hx : P5 n xs) : ∀ t, t < n * n → 0 ≤ (permRows xs).flatten.getD t 0 ∧ (permRows xs).flatten.getD t 0 < P := fun t ht => by
  have hn : 0 < n := Nat.pos_of_ne_zero fun e => by subst e; simp at ht
  have h1 : t / n < n := Nat.div_lt_of_lt_mul ht
  have h2 : t % n < n := Nat.mod_lt _ hn
  have : (permRows xs).flatten.getD (t / n * n + t % n) 0 = if ((t % n : Nat) : Int) = xs.getD (t / n) 0 then 1 else 0 := permRows_mf hx.len h1 h2
  have e : t / n * n + t % n = t := Nat.div_add_mod' t n
  rw [e] at this
  rw [this]
  split <;> omega

set_option maxRecDepth 100000 in
set_option maxHeartbeats 16000000 in
theorem DrawRanks_any (v : Value) (l : Nat) (w : World) (h : Byts w v l) :
    Calls Try.prog 5 #[v] w (RkRet w) := by
  have Hh := Lib.hid h
  obtain ⟨_, _, cap, rfl, _⟩ := h
  obtain ⟨B0, hB0⟩ : ∃ B, B = w.heap.size := ⟨_, rfl⟩
  have HB0 := Lib.hid hB0
  have Z0 := Lib.hid (heap_alloc_top w (.cells #[.int .i64 0, .int .i64 0, .int .i64 0, .slice none 0 0] 26))
  have Hh0 := Lib.hid (Hh.out.below (below_alloc w (.cells #[.int .i64 0, .int .i64 0, .int .i64 0, .slice none 0 0] 26)))
  have BL0 := Lib.hid (below_alloc w (.cells #[.int .i64 0, .int .i64 0, .int .i64 0, .slice none 0 0] 26))
  have hs0 : (w.alloc (.cells #[.int .i64 0, .int .i64 0, .int .i64 0, .slice none 0 0] 26)).heap.size = w.heap.size + 1 := size_alloc _ _
  clear hB0
  go_enter Try.func5, Try.ntmps5
  go_wp2_with fail
  generalize w.alloc (.cells #[.int .i64 0, .int .i64 0, .int .i64 0, .slice none 0 0] 26) = w1 at *
  refine (l1New_any _ l _ Hh0.out).mono ?_
  rintro e w2 ⟨rfl, hc2, hb2⟩
  have hk2 := hc2.lt
  have HC2 := Lib.hid hc2
  have Z2 := Lib.hid (blk_later Z0.out hb2)
  have BL2 := Lib.hid (BL0.out.trans (hb2.mono (by omega)))
  clear hc2 hb2
  obtain ⟨k, hk⟩ : ∃ k, k = w1.heap.size := ⟨_, rfl⟩
  rw [← hk] at HC2 hk2 ⊢
  have hk0 : w.heap.size + 1 ≤ k := by omega
  have hk1 : k ≤ w.heap.size + 1 := by omega
  have Hk := Lib.hid hk
  clear hk hs0
  go_wp2_with fail
  refine (dPrime_any k _ HC2.out).mono ?_
  rintro e w3 ⟨P, rfl, hp, hc3, hf3⟩
  obtain ⟨hP2, hP7⟩ := primeOk_range hp
  have HP := Lib.hid hp
  have hs3 := hf3.size
  have HC3 := Lib.hid hc3
  have Z3 := Lib.hid ((hf3.block _ (blk_lt Z2.out) (.inl (by omega))).trans Z2.out)
  have BL3 := Lib.hid (BL2.out.trans (hf3.below (by omega) (by omega)))
  clear hc3 hf3 hp
  go_wp2_with fail
  refine (l1Below_any k 5 _ HC3.out (by omega) (by omega)).mono ?_
  rintro e w4 ⟨m, rfl, hm, hc4, hf4⟩
  have hs4 := hf4.size
  have HC4 := Lib.hid hc4
  have Z4 := Lib.hid ((hf4.block _ (blk_lt Z3.out) (.inl (by omega))).trans Z3.out)
  have BL4 := Lib.hid (BL3.out.trans (hf4.below (by omega) (by omega)))
  have hmm : 1 + (m : Int) = ((m + 1 : Nat) : Int) := by omega
  obtain ⟨n, hn⟩ : ∃ n, n = m + 1 := ⟨_, rfl⟩
  rw [← hn] at hmm
  have Hmm := Lib.hid hmm
  have hn1 : 1 ≤ n := by omega
  have hn5 : n ≤ 5 := by omega
  clear hc4 hf4 hn hmm
  go_wp2_with fail
  rw [Hmm.out]
  refine (dPerm_any k n _ HC4.out hn1 hn5).mono ?_
  rintro e w5 ⟨u5, xs, rfl, ho5, hp5, hl5, hc5, hf5⟩
  have hs5 := hf5.size
  have HC5 := Lib.hid hc5
  have HO5 := Lib.hid ho5
  have HX5 := Lib.hid (show P5 n xs from ⟨hp5, hl5, hn5⟩)
  have Z5 := Lib.hid ((hf5.block _ (blk_lt Z4.out) (.inl (by omega))).trans Z4.out)
  have BL5 := Lib.hid (BL4.out.trans (hf5.below (by omega) (by omega)))
  obtain ⟨p5, k5, rfl, hk5, hk55⟩ := ho5.shape
  unfold maxLen at hk55
  rw [hl5] at HO5 hk5 ⊢
  clear ho5 hp5 hl5 hc5 hf5
  go_wp2_with fail
  refine (l1Once_any k 2 _ HC5.out (by omega) (by omega)).mono ?_
  rintro e w6 ⟨b, rfl, hc6, hf6⟩
  have hs6 := hf6.size
  have HC6 := Lib.hid hc6
  have HO6 := Lib.hid (HO5.out.frm hf6 (Or.inr (by omega)))
  have Z6 := Lib.hid ((hf6.block _ (blk_lt Z5.out) (.inl (by omega))).trans Z5.out)
  have BL6 := Lib.hid (BL5.out.trans (hf6.below (by omega) (by omega)))
  clear hc6 hf6
  cases b with
  | true =>
    go_wp2_with fail
    refine (dMatrix_any k P n n _ HC6.out HP.out (by omega) (by omega)).mono ?_
    rintro e w7 ⟨u7, D, rfl, ho7, hl7, hr7, hc7, hf7⟩
    have HO7 := Lib.hid ho7
    have HX7 := Lib.hid (HO6.out.frm hf7 (Or.inr (by omega)))
    have HL7 := Lib.hid hl7
    have HR7 := Lib.hid hr7
    have Z7 := Lib.hid ((hf7.block _ (blk_lt Z6.out) (.inl (by omega))).trans Z6.out)
    have BL7 := Lib.hid (BL6.out.trans (hf7.below (by omega) (by omega)))
    have hs7 := hf7.size
    obtain ⟨p7, k7, rfl, hk7, hk77⟩ := ho7.shape
    obtain ⟨z0, z1, z2, z3, zf, zz⟩ := blk4 Z7.out
    clear ho7 hl7 hr7 hc7 hf7
    go_wp2_with fail
    have HZ8 := Lib.hid (set4_all Z7.out (.int .i64 P) (.int .i64 (n : Int)) (.int .i64 (n : Int)) (.slice p7 D.length k7))
    have HO8 := Lib.hid (own_set4 (b := w.heap.size) HO7.out (.inl (by omega)) (.int .i64 P) (.int .i64 (n : Int)) (.int .i64 (n : Int)) (.slice p7 D.length k7))
    have HX8 := Lib.hid (own_set4 (b := w.heap.size) HX7.out (.inl (by omega)) (.int .i64 P) (.int .i64 (n : Int)) (.int .i64 (n : Int)) (.slice p7 D.length k7))
    have BL8 := Lib.hid (below_set4 BL7.out (Nat.le_refl _) (.int .i64 P) (.int .i64 (n : Int)) (.int .i64 (n : Int)) (.slice p7 D.length k7))
    clear z0 z1 z2 z3 zf zz Z7 HO7 HX7 BL7
    obtain ⟨f0, f1, f2, f3, ff, fz⟩ := blk4 HZ8.out
    refine bodyPost_ret (v := .tuple #[.agg #[.int .i64 P, .int .i64 (n : Int), .int .i64 (n : Int), .slice p7 D.length k7], .slice p5 n k5]) (by simp [results, Try.results5, go_sem, f0, f1, f2, f3, fz]) rfl ⟨P, n, _, _, D, xs, rfl, HP.out, hn1, HX5.out, HO8.out.ints, HL7.out, fun t ht => ?_, HX8.out.ints, BL8.out⟩
    rw [getD_lt (by rw [HL7.out]; exact ht)]
    exact HR7.out _ (List.getElem_mem _)
  | false =>
    go_wp2_with fail
    refine (l7Perm_any P _ xs _ HO6.out.ints HX5.out.ok).mono ?_
    rintro e w7 ⟨u7, rfl, ho7, hb7⟩
    obtain ⟨N, hN⟩ : ∃ N, N = n * n := ⟨_, rfl⟩
    have HN := Lib.hid hN
    have hN1 : 1 ≤ N := by rw [hN]; exact Nat.mul_pos hn1 hn1
    have hN25 : N ≤ 25 := by rw [hN]; exact Nat.mul_le_mul hn5 hn5
    have HN6 := Lib.hid (show N ≤ 1000000 by omega)
    have hlx := HX5.out.len
    have Hlx := Lib.hid hlx
    rw [hlx]
    have hnA : (permRows xs).flatten.length = N := by rw [permRows_flat_length, hlx, hN]
    obtain ⟨p7, k7, rfl, _, _⟩ := ho7.shape
    rw [hnA] at ho7 ⊢
    have hof := ho7.fn
    rw [hnA] at hof
    obtain ⟨gR, rfl, hg1, hg2, _⟩ := hof.at_ (by omega)
    have HoA := Lib.hid (ho7.widen (lo := gR) (hi := gR + 1) fun b hb => by simp [Value.ownBlock] at hb; omega)
    have HlA := Lib.hid hnA
    have hox := HO6.out.fn
    rw [hlx] at hox
    obtain ⟨gx, rfl, hgx1, hgx2, _⟩ := hox.at_ (by omega)
    have hs7 := hb7.size
    have hbl := below_alloc w7 (.cells #[.int .i64 P, .int .i64 (n : Int), .int .i64 (n : Int), .slice (some ⟨gR, 0, none⟩) N k7] 26)
    have hNN : RkN w.heap.size k w7.heap.size gR w4.heap.size w5.heap.size := ⟨by omega, by omega, by omega, by omega, by omega, by omega⟩
    have HS0 := Lib.hid (show RkS w w.heap.size k w7.heap.size gR k7 w4.heap.size w5.heap.size P n N (.slice (some ⟨gx, 0, none⟩) n k5) xs (permRows xs).flatten (w7.alloc (.cells #[.int .i64 P, .int .i64 (n : Int), .int .i64 (n : Int), .slice (some ⟨gR, 0, none⟩) N k7] 26)) from
      ⟨blk_later (blk_later Z6.out hb7) hbl, heap_alloc_top _ _, HoA.out.below hbl, hnA, fun t ht => perm_rng hP2 HX5.out t (by rw [← hN]; exact ht), (HO6.out.below hb7).below hbl, (HC6.out.below hb7).below hbl, BL6.out.trans ((hb7.trans (hbl.mono hs7)).mono (by omega))⟩)
    have HNN := Lib.hid hNN
    have hgk : w7.heap.size ≠ w.heap.size := by omega
    have hxR := fun (t : Nat) (ht : t < n) => P5.rng HX5.out ht
    have HXR := Lib.hid hxR
    clear hNN hbl hof hox ho7 hb7 hnA hlx hxR hN
    go_wp2_with fail
    go_loopg [9] n (fun g s9 wr => ∃ (i : Nat) (D : List Int), i ≤ n ∧ g = n - i ∧ s9 = .int .i64 i ∧ Hid (RkS w w.heap.size k w7.heap.size gR k7 w4.heap.size w5.heap.size P n N (.slice (some ⟨gx, 0, none⟩) n k5) xs D wr))
    case atStart => exact ⟨0, _, Nat.zero_le _, rfl, rfl, HS0.out⟩
    case round =>
      obtain ⟨i, D, hi, rfl, rfl, hF⟩ := hrel
      have HF := Lib.hid hF.out
      clear hF
      by_cases hlt : i < n
      · have hlt2 : (i : Int) < (n : Int) := by omega
        go_wp2_with fail
        refine (l1Once_any k 3 _ HF.out.cur (by omega) (by omega)).mono ?_
        rintro e w9 ⟨b, rfl, hc9, hf9⟩
        have HS3 := Lib.hid (HF.out.frm HNN.out hf9 hc9)
        clear hc9 hf9
        go_upto_if 42 with (fail)
        go_cut [9] (fun s9 wc => s9 = .int .i64 i ∧ ∃ D1 : List Int, Hid (RkS w w.heap.size k w7.heap.size gR k7 w4.heap.size w5.heap.size P n N (.slice (some ⟨gx, 0, none⟩) n k5) xs D1 wc))
        case first =>
          cases b with
          | true =>
            obtain ⟨m, hm, hmn⟩ := HXR.out i hlt
            obtain ⟨Ka, HKa, Hkra, Hkka, hKal⟩ := mul_row HN.out HN6.out (i := i) (j := m) hlt hmn
            obtain ⟨Ha1, Ha2, ha0, ha1, ha2⟩ := idx_facts hKal HN6.out
            have e0 := HS3.out.xcell (i := i) (by rw [Hlx.out]; exact hlt)
            rw [hm] at e0
            have e1 := HS3.out.cell hKal
            have e3 := HS3.out.frz (Ka + m)
            obtain ⟨z1, hz1⟩ : ∃ z, z = D.getD (Ka + m) 0 := ⟨_, rfl⟩
            rw [← hz1] at e1
            obtain ⟨a0, a1, a2, a3, af, az⟩ := blk4 HS3.out.m
            clear hz1
            go_wp2_with fail
            have f1 := Hkra.out
            have f2 := Hkka.out
            have f5 := Ha1.out
            have f6 := Ha2.out
            go_still_tail 11, (by kernel_rfl)
            change wpList _ _ _ _ _ w9.drew
            clear f1 f2 f5 f6
            go_wp2_with fail
            clear a0 a1 a2 a3 af az e0 e1 e3
            go_meet
            exact ⟨rfl, _, (HS3.out.set HNN.out hKal (v := 0) ⟨by omega, by omega⟩).drew HNN.out⟩
          | false =>
            go_wp2_with fail
            go_meet
            exact ⟨rfl, _, HS3.out⟩
        case rest =>
          obtain ⟨rfl, D1, hF⟩ := hcut
          clear HS3
          have HS3 := Lib.hid hF.out
          clear hF
          go_wp2_with fail
          go_loopg [10] i (fun g s10 wr => ∃ (j : Nat) (D1 : List Int), j ≤ i ∧ g = i - j ∧ s10 = .int .i64 j ∧ Hid (RkS w w.heap.size k w7.heap.size gR k7 w4.heap.size w5.heap.size P n N (.slice (some ⟨gx, 0, none⟩) n k5) xs D1 wr))
          case atStart => exact ⟨0, _, Nat.zero_le _, rfl, rfl, HS3.out⟩
          case round =>
            obtain ⟨j, D1, hj, rfl, rfl, hF⟩ := hrel
            have HF1 := Lib.hid hF.out
            clear hF
            by_cases hjl : j < i
            · have hjl2 : (j : Int) < (i : Int) := by omega
              have hjn : j < n := by omega
              go_wp2_with fail
              refine (l1Below_int k P _ HF1.out.cur (by omega) (by omega)).mono ?_
              rintro e wa ⟨x, rfl, hx0, hxP, hca, hfa⟩
              have hx := And.intro hx0 hxP
              have HS4 := Lib.hid (HF1.out.frm HNN.out hfa hca)
              clear hca hfa
              go_wp2_with fail
              refine (l1Below_int k P _ HS4.out.cur (by omega) (by omega)).mono ?_
              rintro e wb ⟨y, rfl, hy0, hyP, hcb, hfb⟩
              have hy := And.intro hy0 hyP
              have HS5 := Lib.hid (HS4.out.frm HNN.out hfb hcb)
              clear hcb hfb
              go_wp2_with fail
              go_loopg [13] n (fun g s13 wr => ∃ (t : Nat) (D2 : List Int), t ≤ n ∧ g = n - t ∧ s13 = .int .i64 t ∧ Hid (RkS w w.heap.size k w7.heap.size gR k7 w4.heap.size w5.heap.size P n N (.slice (some ⟨gx, 0, none⟩) n k5) xs D2 wr))
              case atStart => exact ⟨0, _, Nat.zero_le _, rfl, rfl, HS5.out⟩
              case round =>
                obtain ⟨t, D2, ht, rfl, rfl, hF⟩ := hrel
                have HF2 := Lib.hid hF.out
                clear hF
                by_cases htl : t < n
                · have htl2 : (t : Int) < (n : Int) := by omega
                  obtain ⟨Ka, HKa, Hkra, Hkka, hKal⟩ := mul_row HN.out HN6.out (i := i) (j := t) hlt htl
                  obtain ⟨Ha1, Ha2, ha0, ha1, ha2⟩ := idx_facts hKal HN6.out
                  obtain ⟨Kb, HKb, Hkrb, Hkkb, hKbl⟩ := mul_row HN.out HN6.out (i := j) (j := t) hjn htl
                  obtain ⟨Hb1, Hb2, hb0, hb1, hb2⟩ := idx_facts hKbl HN6.out
                  have e1 := HF2.out.cell hKal
                  have e2 := HF2.out.cell hKbl
                  have e3 := HF2.out.frz (Ka + t)
                  obtain ⟨z1, hz1⟩ : ∃ z, z = D2.getD (Ka + t) 0 := ⟨_, rfl⟩
                  obtain ⟨z2, hz2⟩ : ∃ z, z = D2.getD (Kb + t) 0 := ⟨_, rfl⟩
                  rw [← hz1] at e1
                  rw [← hz2] at e2
                  have r1 := HF2.out.rng _ hKal
                  have r2 := HF2.out.rng _ hKbl
                  rw [← hz1] at r1
                  rw [← hz2] at r2
                  have hp0 : ¬ P = 0 := by omega
                  obtain ⟨q1, q2⟩ := mul_small hx r2 hP7
                  have Hm := Lib.hid (show wrap64 (x * z2) = x * z2 from w64 (by omega) (by omega))
                  have Hm2 := Lib.hid (show IntKind.i64.wrap (x * z2) = x * z2 from k64 (by omega) (by omega))
                  have Hs := Lib.hid (show IntKind.i64.wrap (z1 + x * z2) = z1 + x * z2 from k64 (by omega) (by omega))
                  have Ht := Lib.hid (show (z1 + x * z2).tmod P = (z1 + x * z2) % P from Int.tmod_eq_emod_of_nonneg (by omega))
                  obtain ⟨a0, a1, a2, a3, af, az⟩ := blk4 HF2.out.m
                  clear hz1 hz2
                  go_wp2_with fail
                  have f1 := Hkra.out
                  have f2 := Hkka.out
                  have f3 := Hkrb.out
                  have f4 := Hkkb.out
                  have f5 := Ha1.out
                  have f6 := Ha2.out
                  have f7 := Hb1.out
                  have f8 := Hb2.out
                  have f9 := Hs.out
                  have f10 := Ht.out
                  have f11 := Hm2.out
                  go_still_tail 31, (by kernel_rfl)
                  change wpList _ _ _ _ _ wr.drew
                  clear f1 f2 f3 f4 f5 f6 f7 f8 f9 f10 f11
                  go_wp2_with fail
                  clear a0 a1 a2 a3 af az e1 e2 e3
                  go_roundg (n - (t + 1))
                  case measure => omega
                  case rel => exact ⟨t + 1, _, by omega, rfl, by go_num, (HF2.out.drew HNN.out).set HNN.out hKal (emod_rng hP2 _)⟩
                · obtain rfl : n = t := by omega
                  have htl2 : ¬ (n : Int) < (n : Int) := by omega
                  go_wp2_with fail
                  go_loopg [14] n (fun g s14 wr => ∃ (t : Nat) (D2 : List Int), t ≤ n ∧ g = n - t ∧ s14 = .int .i64 t ∧ Hid (RkS w w.heap.size k w7.heap.size gR k7 w4.heap.size w5.heap.size P n N (.slice (some ⟨gx, 0, none⟩) n k5) xs D2 wr))
                  case atStart => exact ⟨0, _, Nat.zero_le _, rfl, rfl, HF2.out⟩
                  case round =>
                    obtain ⟨t, D2, ht, rfl, rfl, hF⟩ := hrel
                    have HF2 := Lib.hid hF.out
                    clear hF
                    by_cases htl : t < n
                    · have htl2 : (t : Int) < (n : Int) := by omega
                      obtain ⟨Ka, HKa, Hkra, Hkka, hKal⟩ := mul_row HN.out HN6.out (i := t) (j := i) htl hlt
                      obtain ⟨Ha1, Ha2, ha0, ha1, ha2⟩ := idx_facts hKal HN6.out
                      obtain ⟨Kb, HKb, Hkrb, Hkkb, hKbl⟩ := mul_row HN.out HN6.out (i := t) (j := j) htl hjn
                      obtain rfl : Ka = Kb := by rw [HKa.out, HKb.out]
                      obtain ⟨Hb1, Hb2, hb0, hb1, hb2⟩ := idx_facts hKbl HN6.out
                      have e1 := HF2.out.cell hKal
                      have e2 := HF2.out.cell hKbl
                      have e3 := HF2.out.frz (Ka + i)
                      obtain ⟨z1, hz1⟩ : ∃ z, z = D2.getD (Ka + i) 0 := ⟨_, rfl⟩
                      obtain ⟨z2, hz2⟩ : ∃ z, z = D2.getD (Ka + j) 0 := ⟨_, rfl⟩
                      rw [← hz1] at e1
                      rw [← hz2] at e2
                      have r1 := HF2.out.rng _ hKal
                      have r2 := HF2.out.rng _ hKbl
                      rw [← hz1] at r1
                      rw [← hz2] at r2
                      have hp0 : ¬ P = 0 := by omega
                      obtain ⟨q1, q2⟩ := mul_small hy r2 hP7
                      have Hm := Lib.hid (show wrap64 (y * z2) = y * z2 from w64 (by omega) (by omega))
                      have Hm2 := Lib.hid (show IntKind.i64.wrap (y * z2) = y * z2 from k64 (by omega) (by omega))
                      have Hs := Lib.hid (show IntKind.i64.wrap (z1 + y * z2) = z1 + y * z2 from k64 (by omega) (by omega))
                      have Ht := Lib.hid (show (z1 + y * z2).tmod P = (z1 + y * z2) % P from Int.tmod_eq_emod_of_nonneg (by omega))
                      obtain ⟨a0, a1, a2, a3, af, az⟩ := blk4 HF2.out.m
                      clear hz1 hz2
                      go_wp2_with fail
                      have f1 := Hkra.out
                      have f2 := Hkka.out
                      have f3 := Hkrb.out
                      have f4 := Hkkb.out
                      have f5 := Ha1.out
                      have f6 := Ha2.out
                      have f7 := Hb1.out
                      have f8 := Hb2.out
                      have f9 := Hs.out
                      have f10 := Ht.out
                      have f11 := Hm2.out
                      go_still_tail 31, (by kernel_rfl)
                      change wpList _ _ _ _ _ wr.drew
                      clear f1 f2 f3 f4 f5 f6 f7 f8 f9 f10 f11
                      go_wp2_with fail
                      clear a0 a1 a2 a3 af az e1 e2 e3
                      go_roundg (n - (t + 1))
                      case measure => omega
                      case rel => exact ⟨t + 1, _, by omega, rfl, by go_num, (HF2.out.drew HNN.out).set HNN.out hKal (emod_rng hP2 _)⟩
                    · obtain rfl : n = t := by omega
                      have htl2 : ¬ (n : Int) < (n : Int) := by omega
                      go_wp2_with fail
                      go_roundg (i - (j + 1))
                      case measure => omega
                      case rel => exact ⟨j + 1, _, by omega, rfl, by go_num, HF2.out⟩
            · obtain rfl : j = i := by omega
              have hjl2 : ¬ (j : Int) < (j : Int) := by omega
              go_wp2_with fail
              go_roundg (n - (j + 1))
              case measure => omega
              case rel => exact ⟨j + 1, _, by omega, rfl, by go_num, HF1.out⟩
      · obtain rfl : i = n := by omega
        have hlt2 : ¬ (i : Int) < (i : Int) := by omega
        obtain ⟨a0, a1, a2, a3, af, az⟩ := blk4 HF.out.m
        obtain ⟨z0, z1, z2, z3, zf, zz⟩ := blk4 HF.out.z
        go_wp2_with fail
        have HZ8 := Lib.hid (set4_all HF.out.z (.int .i64 P) (.int .i64 (i : Int)) (.int .i64 (i : Int)) (.slice (some ⟨gR, 0, none⟩) N k7))
        have HO8 := Lib.hid (own_set4 (b := w.heap.size) HF.out.row (.inl (by omega)) (.int .i64 P) (.int .i64 (i : Int)) (.int .i64 (i : Int)) (.slice (some ⟨gR, 0, none⟩) N k7))
        have HX8 := Lib.hid (own_set4 (b := w.heap.size) HF.out.x (.inl (by omega)) (.int .i64 P) (.int .i64 (i : Int)) (.int .i64 (i : Int)) (.slice (some ⟨gR, 0, none⟩) N k7))
        have BL8 := Lib.hid (below_set4 HF.out.bel (Nat.le_refl _) (.int .i64 P) (.int .i64 (i : Int)) (.int .i64 (i : Int)) (.slice (some ⟨gR, 0, none⟩) N k7))
        clear z0 z1 z2 z3 zf zz a0 a1 a2 a3 af az
        obtain ⟨f0, f1, f2, f3, ff, fz⟩ := blk4 HZ8.out
        have r1 := HF.out.len
        have r2 := HF.out.rng
        refine bodyPost_ret (v := .tuple #[.agg #[.int .i64 P, .int .i64 (i : Int), .int .i64 (i : Int), .slice (some ⟨gR, 0, none⟩) N k7], .slice (some ⟨gx, 0, none⟩) i k5]) (by simp [results, Try.results5, go_sem, f0, f1, f2, f3, fz]) rfl ⟨P, i, _, _, D, xs, rfl, HP.out, hn1, HX5.out, HO8.out.ints, by rw [r1, HN.out], fun t ht => r2 t (by rw [HN.out]; exact ht), HX8.out.ints, BL8.out⟩

end Go.Proofs.Ytklpaannmdbmiaa

namespace Go.Proofs.Ytklpaannmdbmiaa
set_option linter.all false
open Go.RowKit

set_option maxRecDepth 100000 in
set_option maxHeartbeats 2000000 in
theorem l1SumC_any (v : Value) (xs : List Int) (w : World) (h : Ints w v (cdL xs)) (hl : xs.length ≤ 10) :
    Calls Try.prog 53 #[v] w fun e w' => e = .returned (.int .i64 (lnN xs : Nat)) ∧ Qt w w' := by
  obtain ⟨p, cap, rfl, ⟨hx1, hx2⟩, hxc⟩ := h
  unfold maxLen at hx2
  rw [cdL_length] at hx1 hxc ⊢
  go_enter Try.func53, Try.ntmps53
  go_wp2_with fail
  go_loopg [3, 4] xs.length (fun g s3 s4 wr => ∃ k : Nat, k ≤ xs.length ∧ g = xs.length - k ∧ s4 = .int .i64 k ∧ s3 = .int .i64 (lnK xs k : Nat) ∧ Qt w wr)
  case atStart => exact ⟨0, Nat.zero_le _, rfl, rfl, rfl, Qt.refl _⟩
  case round =>
    obtain ⟨k, hk, rfl, rfl, rfl, hq⟩ := hrel
    have hr := lnK_le xs hl k hk
    obtain ⟨z, hz⟩ : ∃ z, z = lnK xs k := ⟨_, rfl⟩
    rw [← hz] at hr ⊢
    have Hz := Lib.hid hz
    by_cases hlt : k < xs.length
    · obtain ⟨b, off, rfl, hc⟩ := hxc (by omega)
      have c1 := hq.cell (hc k hlt)
      unfold iv at c1
      rw [cdL_getD hlt] at c1
      obtain ⟨x, hx⟩ : ∃ x, x = cdA xs k := ⟨_, rfl⟩
      rw [← hx] at c1
      have hx2 : x ≤ 10 := by rw [hx]; unfold cdA; have := cdK_le xs k (xs.length - (k + 1)); omega
      have Hn := Lib.hid (show lnK xs (k + 1) = z + x by rw [lnK, hz, hx])
      have hk1 : (k : Int) < (xs.length : Int) := by omega
      clear hx hc hxc hz
      go_wp2_with fail
      go_roundg (xs.length - (k + 1))
      case measure => omega
      case rel => exact ⟨k + 1, by omega, rfl, by go_num, by rw [Hn.out]; go_num, hq⟩
    · obtain rfl : k = xs.length := by omega
      have hk1 : ¬ (xs.length : Int) < (xs.length : Int) := by omega
      clear hz
      go_wp2_with fail
      go_ret
      exact ⟨by rw [Hz.out]; rfl, hq⟩

set_option maxRecDepth 100000 in
set_option maxHeartbeats 2000000 in
theorem l1Length_any (v : Value) (xs : List Int) (w : World) (h : Ints w v xs) (hl : xs.length ≤ 10) :
    Calls Try.prog 39 #[v] w fun e w' => e = .returned (.int .i64 (lnN xs : Nat)) ∧ Below w.heap.size w w' := by
  have Hh := Lib.hid h
  obtain ⟨p, cap, rfl, ⟨hx1, hx2⟩, hxc⟩ := h
  unfold maxLen at hx2
  clear hxc
  go_enter Try.func39, Try.ntmps39
  go_wp2_with fail
  refine (l1Code_any _ xs _ Hh.out hl).mono ?_
  rintro e w1 ⟨u, rfl, ho, hb⟩
  have Ho := Lib.hid ho.ints
  have Hb := Lib.hid hb
  obtain ⟨pu, ku, rfl, _, _⟩ := ho.shape
  clear ho hb
  go_wp2_with fail
  refine (l1SumC_any _ xs _ Ho.out hl).mono ?_
  rintro e w2 ⟨rfl, hq⟩
  have Hq := Lib.hid hq
  clear hq
  go_wp2_with fail
  go_ret
  exact ⟨rfl, Hb.out.trans (Hq.out.below _)⟩

/-- a word as numbers -/
def wz (r : List Nat) : List Int := r.map fun (k : Nat) => (k : Int)
theorem wz_length (r : List Nat) : (wz r).length = r.length := by simp [wz]
theorem wz_getD {r : List Nat} {j : Nat} (h : j < r.length) : (wz r).getD j 0 = (r.getD j 0 : Nat) := by simp [wz, List.getD_eq_getElem?_getD, h]
theorem wz_snoc (r : List Nat) (k : Nat) : wz (r ++ [k]) = wz r ++ [(k : Int)] := by simp [wz]

end Go.Proofs.Ytklpaannmdbmiaa

namespace Go.Proofs.Ytklpaannmdbmiaa
set_option linter.all false
open Go.RowKit

/-- numbers that are letters for n -/
def LetOk (n : Nat) (xs : List Int) : Prop := ∀ j, j < xs.length → ∃ m : Nat, xs.getD j 0 = (m : Int) ∧ m + 1 < n
theorem LetOk.nil (n : Nat) : LetOk n [] := fun j hj => absurd hj (Nat.not_lt_zero _)
theorem LetOk.snoc {n : Nat} {xs : List Int} (h : LetOk n xs) {m : Nat} (hm : m + 1 < n) : LetOk n (xs ++ [(m : Int)]) := fun j hj => by
  by_cases e : j < xs.length
  · rw [List.getD_eq_getElem?_getD, List.getElem?_append_left e, ← List.getD_eq_getElem?_getD]; exact h j e
  · rw [List.length_append, List.length_singleton] at hj
    obtain rfl : j = xs.length := by omega
    rw [List.getD_eq_getElem?_getD, List.getElem?_append_right (Nat.le_refl _), Nat.sub_self]
    exact ⟨m, rfl, hm⟩
theorem LetOk.cons {n : Nat} {xs : List Int} (h : LetOk n xs) {m : Nat} (hm : m + 1 < n) : LetOk n ((m : Int) :: xs) := fun j hj => by
  cases j with
  | zero => exact ⟨m, rfl, hm⟩
  | succ j => rw [List.getD_cons_succ]; exact h j (by rw [List.length_cons] at hj; omega)
def dscN (xs : List Int) (m : Nat) : List Nat := (List.range m).filter fun k => decide (xs.getD (k + 1) 0 < xs.getD k 0)
theorem dscN_yes {xs : List Int} {m : Nat} (h : xs.getD (m + 1) 0 < xs.getD m 0) : dscN xs (m + 1) = dscN xs m ++ [m] := by
  unfold dscN
  rw [List.range_succ, List.filter_append]
  simp only [List.filter_cons, List.filter_nil, h, decide_true, if_true]
theorem dscN_no {xs : List Int} {m : Nat} (h : ¬ xs.getD (m + 1) 0 < xs.getD m 0) : dscN xs (m + 1) = dscN xs m := by
  unfold dscN
  rw [List.range_succ, List.filter_append]
  have : List.filter (fun (k : Nat) => decide (xs.getD (k + 1) 0 < xs.getD k 0)) [m] = [] := by rw [List.filter_cons, decide_eq_false h]; rfl
  rw [this, List.append_nil]
theorem dscN_le (xs : List Int) (m : Nat) : (dscN xs m).length ≤ m := Nat.le_trans (List.length_filter_le _ _) (by simp)
theorem P5.ne {n : Nat} {v : List Int} (h : P5 n v) {k : Nat} (hk : k + 1 < n) : v.getD k 0 ≠ v.getD (k + 1) 0 := by
  have hp := h.ok
  simp only [permOk, decide_eq_true_eq] at hp
  have := List.pairwise_iff_getElem.1 hp.2.2.2 k (k + 1) (by have := h.len; omega) (by have := h.len; omega) (by omega)
  rw [← getD_lt, ← getD_lt] at this
  exact this
/-- some place goes down -/
theorem dscN_some {n : Nat} {v : List Int} (h : P5 n v) (h0 : lnN v ≠ 0) : 1 ≤ (dscN v (n - 1)).length := by
  obtain ⟨k, hk, hd⟩ := (blid_at h).2.resolve_left h0
  have : k ∈ dscN v (n - 1) := by
    unfold dscN
    rw [List.mem_filter, List.mem_range]
    have := of_decide_eq_false hd
    have := h.ne hk
    exact ⟨by omega, decide_eq_true (by omega)⟩
  exact List.length_pos_of_mem this
theorem dscN_at {n : Nat} {v : List Int} (h : P5 n v) {i : Nat} (hi : i < (dscN v (n - 1)).length) : (dscN v (n - 1)).getD i 0 + 1 < n ∧ ascB ((dscN v (n - 1)).getD i 0) v = false := by
  have hm : (dscN v (n - 1)).getD i 0 ∈ dscN v (n - 1) := by
    rw [List.getD_eq_getElem?_getD, List.getElem?_eq_getElem hi]; exact List.getElem_mem _
  unfold dscN at hm ⊢
  rw [List.mem_filter, List.mem_range] at hm
  have := of_decide_eq_true hm.2
  exact ⟨by omega, decide_eq_false (by omega)⟩

set_option maxRecDepth 100000 in
set_option maxHeartbeats 4000000 in
theorem specDescents_any (n : Nat) (v : Value) (xs : List Int) (w : World) (h : Ints w v xs) (hp : P5 n xs) (h1 : 1 ≤ n) :
    Calls Try.prog 40 #[v] w (RetI w (wz (dscN xs (n - 1)))) := by
  have Hh := Lib.hid h
  have Hp := Lib.hid hp
  have h5 := hp.le
  obtain ⟨p, cap, rfl, ⟨hx1, hx2⟩, hxc⟩ := h
  unfold maxLen at hx2
  rw [hp.len] at Hh hx1 hxc ⊢
  have Hxc := Lib.hid hxc
  clear hxc hp
  go_enter Try.func40, Try.ntmps40
  go_wp2_with fail
  refine (specIsPerm_b _ xs true Hp.out.ok _ Hh.out).mono ?_
  rintro e w1 ⟨rfl, hq⟩
  have HQ := Lib.hid hq
  clear hq
  go_wp2_with fail
  go_loopg [3, 4] (n - 1) (fun g s3 s4 wr => ∃ k : Nat, k ≤ n - 1 ∧ g = n - 1 - k ∧ s4 = .int .i64 (k : Int) ∧ Hid (OwnI 3 wr w1.heap.size wr.heap.size s3 (wz (dscN xs k))) ∧ Hid (Below w1.heap.size w1 wr))
  case atStart =>
    refine ⟨0, Nat.zero_le _, rfl, rfl, Lib.hid ?_, Lib.hid (below_alloc w1 _)⟩
    have hm := OwnF.ints (xs := []) (OwnF.made0 w1 3 (iv []))
    exact hm.mono (Nat.le_refl _) (by rw [size_alloc]; exact Nat.le_refl _)
  case round =>
    obtain ⟨k, hk, rfl, rfl, ho, hb⟩ := hrel
    obtain ⟨wx, rfl⟩ : ∃ x : World, x = wr := ⟨_, rfl⟩
    obtain ⟨p3, k3, rfl, hk3, hk33⟩ := ho.out.shape
    have hl3 := dscN_le xs k
    obtain ⟨m, hm⟩ : ∃ m, m = (dscN xs k).length := ⟨_, rfl⟩
    have hofn := ho.out.fn
    rw [wz_length, ← hm] at hk3 hofn ⊢
    rw [← hm] at hl3
    have Hm := Lib.hid hm
    have Ho := Lib.hid ho.out
    rw [wz_length, ← hm] at Ho
    have Hofn := Lib.hid hofn
    have Hb := Lib.hid hb.out
    have hsb := hb.out.size
    clear ho hb hm hofn
    by_cases hkn : k < n - 1
    · have hki : (k : Int) + 1 < (n : Int) := by omega
      have hki2 : (k : Int) < (n : Int) := by omega
      obtain ⟨b, off, rfl, hc⟩ := Hxc.out (by omega)
      have c1 := cell_below Hb.out (HQ.out.cell (hc k (by omega)))
      have c2 := cell_below Hb.out (HQ.out.cell (hc (k + 1) (by omega)))
      unfold iv at c1 c2
      obtain ⟨x, hx⟩ : ∃ x, x = xs.getD k 0 := ⟨_, rfl⟩
      obtain ⟨y, hy⟩ : ∃ y, y = xs.getD (k + 1) 0 := ⟨_, rfl⟩
      rw [← hx] at c1
      rw [← hy] at c2
      have Hx := Lib.hid hx
      have Hy := Lib.hid hy
      clear hc hx hy
      by_cases hyx : y < x
      · have Hd := Lib.hid (dscN_yes (xs := xs) (m := k) (by rw [← Hx.out, ← Hy.out]; exact hyx))
        have hb1 : m + 1 ≤ maxLen := by unfold maxLen; omega
        have hb2 : (m + 1) * 8 ≤ 140737488355328 := by omega
        go_wp2_with fail
        go_quiet (fail)
        have Hq1 := Lib.hid ((Qt.refl wx).drewN nq)
        have Hsz := Lib.hid Hq1.out.size
        have hof2 := Hofn.out.below (Hq1.out.below _)
        generalize wx.drewN nq = wy at *
        clear c1 c2
        have hsy : wx.heap.size ≤ wy.heap.size := Nat.le_of_eq Hsz.out.symm
        have hsy2 : w1.heap.size ≤ wy.heap.size := by omega
        go_wp2_with (at_builtin; go_must (refine wpList_append_F rfl (.tmp 26) (.tmp 28) 24 rfl 3 (.int .i64 0) 8 Try.underlying24 info_int rfl w1.heap.size wx.heap.size _ m (iv (wz (dscN xs k))) rfl (hof2.below (below_alloc wy _)) (by rw [size_alloc]; omega) (by rw [size_alloc]; omega) _ 1 _ rfl (rd_one _ _ _ rfl) (fun j _ => rfl) hb1 hb2 ?_; intro v3 w3 ho3 hg3))
        have hbx : Below w1.heap.size w1 w3 := ((Hb.out.trans (Hq1.out.below _)).trans ((below_alloc wy _).mono hsy2)).trans (grownBy_below hg3 hof2.blocks (Nat.le_refl _) (by rw [size_alloc]; omega))
        go_roundg (n - 1 - (k + 1))
        case measure => omega
        case rel =>
          refine ⟨k + 1, by omega, rfl, by go_num, Lib.hid ?_, Lib.hid hbx⟩
          rw [Hd.out, wz_snoc]
          exact OwnI.snoc1 (by rw [wz_length, ← Hm.out]; exact ho3)
      · have Hd := Lib.hid (dscN_no (xs := xs) (m := k) (by rw [← Hx.out, ← Hy.out]; exact hyx))
        go_wp2_with fail
        go_quiet (fail)
        have Hq1 := Lib.hid ((Qt.refl wx).drewN nq)
        go_wp2_with fail
        go_roundg (n - 1 - (k + 1))
        case measure => omega
        case rel =>
          refine ⟨k + 1, by omega, rfl, by go_num, Lib.hid ?_, Lib.hid (Hb.out.trans (Hq1.out.below _))⟩
          rw [Hd.out]
          exact (Ho.out.below (Hq1.out.below _))
    · have hki : ¬ (k : Int) + 1 < (n : Int) := by omega
      have hke : k = n - 1 := by omega
      go_wp2_with fail
      go_ret
      rw [← hke]
      exact ⟨_, rfl, Ho.out.mono (Nat.le_of_eq HQ.out.size.symm) (Nat.le_refl _), (HQ.out.below _).trans (Hb.out.mono (Nat.le_of_eq HQ.out.size.symm))⟩

set_option maxRecDepth 100000 in
set_option maxHeartbeats 4000000 in
/-- letters played, all of them or those that make longer -/
theorem l1Play_any (n : Nat) (v : Value) (ls : List Int) (b : Bool) (w : World) (h : Ints w v ls) (hl : LetOk n ls) (h1 : 1 ≤ n) (h5 : n ≤ 5) :
    Calls Try.prog 28 #[.int .i64 (n : Int), v, .bool b] w fun e w' => ∃ (u : Value) (xs : List Int), e = .returned u ∧ OwnI 3 w' w.heap.size w'.heap.size u xs ∧ P5 n xs ∧ Below w.heap.size w w' := by
  have Hh := Lib.hid h
  have Hl := Lib.hid hl
  obtain ⟨p, cap, rfl, ⟨hx1, hx2⟩, hxc⟩ := h
  unfold maxLen at hx2
  have Hxc := Lib.hid hxc
  clear hxc hl
  go_enter Try.func28, Try.ntmps28
  go_wp2_with fail
  refine (specIdentity_any n _ h1 (by omega)).mono ?_
  rintro e w1 ⟨u1, rfl, ho1, hb1⟩
  have Ho1 := Lib.hid ho1
  have Hb1 := Lib.hid hb1
  have hs1 := hb1.size
  have Hid5 := Lib.hid (P5.id h1 h5)
  clear ho1 hb1
  go_wp2_with fail
  go_loopg [7, 8] ls.length (fun g s7 s8 wr => ∃ (i : Nat) (c : List Int), i ≤ ls.length ∧ g = ls.length - i ∧ s8 = .int .i64 (i : Int) ∧ Hid (P5 n c) ∧ Hid (OwnI 3 wr w.heap.size wr.heap.size s7 c) ∧ Hid (Below w.heap.size w wr))
  case atStart => exact ⟨0, idL n, Nat.zero_le _, rfl, rfl, Hid5, Ho1, Hb1⟩
  case round =>
    obtain ⟨i, c, hi, rfl, rfl, hc5, ho, hb⟩ := hrel
    obtain ⟨wx, rfl⟩ : ∃ x : World, x = wr := ⟨_, rfl⟩
    have hcl := hc5.out.len
    obtain ⟨p7, k7, rfl, hk7, hk77⟩ := ho.out.shape
    unfold maxLen at hk77
    rw [hcl] at hk7 ⊢
    have Hc5 := Lib.hid hc5.out
    have Ho := Lib.hid ho.out
    rw [hcl] at Ho
    have Hcl := Lib.hid hcl
    have Hb := Lib.hid hb.out
    have hsx := hb.out.size
    clear hc5 ho hb hcl
    by_cases hlt : i < ls.length
    · have hii : (i : Int) < (ls.length : Int) := by omega
      obtain ⟨bw, ow, rfl, hc⟩ := Hxc.out (by omega)
      obtain ⟨m, hm, hmn⟩ := Hl.out i hlt
      have c1 := cell_below Hb.out (hc i hlt)
      unfold iv at c1
      rw [hm] at c1
      have hofn := Ho.out.fn
      rw [Hcl.out] at hofn
      obtain ⟨g7, rfl, _⟩ := hofn.at_ (by omega)
      have d1 := hofn.cell (show m < n by omega)
      have d2 := hofn.cell hmn
      unfold iv at d1 d2
      obtain ⟨x, hx⟩ : ∃ x, x = c.getD m 0 := ⟨_, rfl⟩
      obtain ⟨y, hy⟩ : ∃ y, y = c.getD (m + 1) 0 := ⟨_, rfl⟩
      rw [← hx] at d1
      rw [← hy] at d2
      have hmi : (m : Int) < (n : Int) := by omega
      have hmi1 : (m : Int) + 1 < (n : Int) := by omega
      clear hc hx hy hm hofn
      have swap : ∀ W : World, Qt wx W → Calls Try.prog 41 #[.slice (some ⟨g7, 0, none⟩) n k7, .int .i64 (m : Int), .int .i64 ((m + 1 : Nat) : Int)] W (RetI W (swapL c m (m + 1))) := fun W hq =>
        l1Swap_any _ c m (m + 1) W (Ho.out.ints.qt hq) (by rw [Hcl.out]; omega) (by rw [Hcl.out]; omega) (by rw [Hcl.out]; omega)
      have Hsw := Lib.hid swap
      clear swap
      cases b with
      | true =>
        go_wp2_with fail
        go_quiet (fail)
        have Hq1 := Lib.hid ((Qt.refl wx).drewN nq)
        generalize wx.drewN nq = wy at *
        go_wp2_with fail
        refine (Hsw.out _ Hq1.out).mono ?_
        rintro e w2 ⟨u2, rfl, ho2, hb2⟩
        have Ho2 := Lib.hid ho2
        have Hb2 := Lib.hid ((Hb.out.trans (Hq1.out.below _)).trans (hb2.mono (by rw [Hq1.out.size]; exact hsx)))
        have Hsz := Lib.hid Hq1.out.size
        clear ho2 hb2
        go_wp2_with fail
        go_roundg (ls.length - (i + 1))
        case measure => omega
        case rel => exact ⟨i + 1, swapL c m (m + 1), by omega, rfl, by go_num, Lib.hid (Hc5.out.sw hmn), Lib.hid (Ho2.out.mono (by rw [Hsz.out]; exact hsx) (Nat.le_refl _)), Hb2⟩
      | false =>
        by_cases hxy : x < y
        · go_wp2_with fail
          go_quiet (fail)
          have Hq1 := Lib.hid ((Qt.refl wx).drewN nq)
          generalize wx.drewN nq = wy at *
          go_wp2_with fail
          refine (Hsw.out _ Hq1.out).mono ?_
          rintro e w2 ⟨u2, rfl, ho2, hb2⟩
          have Ho2 := Lib.hid ho2
          have Hb2 := Lib.hid ((Hb.out.trans (Hq1.out.below _)).trans (hb2.mono (by rw [Hq1.out.size]; exact hsx)))
          have Hsz := Lib.hid Hq1.out.size
          clear ho2 hb2
          go_wp2_with fail
          go_roundg (ls.length - (i + 1))
          case measure => omega
          case rel => exact ⟨i + 1, swapL c m (m + 1), by omega, rfl, by go_num, Lib.hid (Hc5.out.sw hmn), Lib.hid (Ho2.out.mono (by rw [Hsz.out]; exact hsx) (Nat.le_refl _)), Hb2⟩
        · go_wp2_with fail
          go_quiet (fail)
          have Hq1 := Lib.hid ((Qt.refl wx).drewN nq)
          go_wp2_with fail
          go_roundg (ls.length - (i + 1))
          case measure => omega
          case rel =>
            refine ⟨i + 1, c, by omega, rfl, by go_num, Hc5, Lib.hid ?_, Lib.hid (Hb.out.trans (Hq1.out.below _))⟩
            have := Ho.out.below (Hq1.out.below _)
            exact this
    · have hii : ¬ (i : Int) < (ls.length : Int) := by omega
      go_wp2_with fail
      go_ret
      first | exact ⟨_, rfl, c, Ho.out, Hc5.out, Hb.out⟩ | exact ⟨_, c, rfl, Ho.out, Hc5.out, Hb.out⟩

end Go.Proofs.Ytklpaannmdbmiaa

namespace Go.Proofs.Ytklpaannmdbmiaa
set_option linter.all false
open Go.RowKit

theorem cons_own {T : TypeId} {w : World} {lo hi l : Nat} {v : Value} {out : List Int} {x : Int} {F : Nat → Value} (h : OwnF w lo hi T v (1 + l) (fun j => if j < 1 then F j else iv out (j - 1))) (hl : out.length = l) (hF : F 0 = .int .i64 x) : OwnI T w lo hi v (x :: out) := by
  refine OwnF.ints ?_
  rw [List.length_cons, hl, Nat.add_comm]
  refine h.congr fun j hj => ?_
  unfold iv
  cases j with
  | zero => rw [if_pos (by omega), hF]; rfl
  | succ j => rw [if_neg (by omega), List.getD_cons_succ]; rfl

theorem len_ten {n : Nat} {xs : List Int} (hp : P5 n xs) : lnN xs ≤ 10 := by
  have a := (wrd_at hp).2.2.2
  have h5 := hp.le
  have b : n * (n - 1) / 2 ≤ 10 := by
    have : n = 0 ∨ n = 1 ∨ n = 2 ∨ n = 3 ∨ n = 4 ∨ n = 5 := by omega
    rcases this with rfl | rfl | rfl | rfl | rfl | rfl <;> decide
  omega
theorem own_one (W : World) (x : Int) : OwnF (W.alloc (.cells #[.int .i64 x] 3)) W.heap.size (W.heap.size + 1) 3 (.slice (some ⟨W.heap.size, 0, none⟩) 1 1) 1 (fun _ => .int .i64 x) :=
  have h : (W.alloc (.cells #[.int .i64 x] 3)).rowIs W.heap.size 3 1 (fun _ => .int .i64 x) := by
    have := World.rowIs_made W (.int .i64 x) 1 3
    have e : madeCells #[Value.int .i64 x] 1 = #[Value.int .i64 x] := by first | kernel_rfl | simp [madeCells]
    rwa [e] at this
  OwnF.mk' h (Nat.le_refl _) (Nat.lt_succ_self _) (Nat.le_refl _) (by unfold maxLen; omega) (fun _ _ => rfl)
set_option maxRecDepth 100000 in
set_option maxHeartbeats 8000000 in
theorem dReduced_any (k n : Nat) (v : Value) (xs : List Int) (w : World) (h : Cur w k) (hx : OwnI 3 w (k + 1) w.heap.size v xs) (hp : P5 n xs) (h1 : 1 ≤ n) :
    Calls Try.prog 27 #[.pointer (some ⟨k, 0, none⟩), v] w fun e w' =>
      ∃ (u : Value) (ls : List Int), e = .returned u ∧ OwnI 3 w' w.heap.size w'.heap.size u ls ∧ LetOk n ls ∧ ls.length ≤ 10 ∧ Cur w' k ∧ Frm k (k + 1) w w' := by
  have Hc := Lib.hid h
  have hk := h.lt
  have HX := Lib.hid hx.ints
  have Hp := Lib.hid hp
  have h5 := hp.le
  have Hln := Lib.hid (len_ten hp)
  obtain ⟨p, cap, rfl, hx1, hx2⟩ := hx.shape
  unfold maxLen at hx2
  rw [hp.len] at HX hx1 ⊢
  clear h hx hp
  go_enter Try.func27, Try.ntmps27
  go_wp2_with fail
  have e1 : (w.alloc (.cells #[] 3)).heap.size = w.heap.size + 1 := size_alloc _ _
  refine (l1Ints_any _ xs _ (HX.out.below (below_alloc w _)) (by rw [Hp.out.len]; omega)).mono ?_
  rintro e w1 ⟨u1, rfl, ho1, hb1⟩
  have Ho1 := Lib.hid ho1
  have Hb1 := Lib.hid (show Below w.heap.size w w1 from (below_alloc w _).trans (hb1.mono (by rw [e1]; omega)))
  have Hs1 := Lib.hid (show w.heap.size + 1 ≤ w1.heap.size from by rw [← e1]; exact hb1.size)
  have Ho0 := Lib.hid ((OwnF.ints (xs := []) (OwnF.made0 w 3 (iv []))).below hb1)
  obtain ⟨p1, k1, rfl, hk1, hk11⟩ := ho1.shape
  rw [Hp.out.len] at hk1 ⊢
  rw [Hp.out.len] at Ho1
  clear ho1 hb1 e1
  go_wp2_with fail
  go_loopg [5, 6] (lnN xs) (fun g s5 s6 wr => ∃ (c ls : List Int) (p6 : Option Addr) (k6 : Nat), P5 n c ∧ g = lnN c ∧ s6 = .slice p6 n k6 ∧ Hid (ls.length + lnN c ≤ 10) ∧ Hid (LetOk n ls) ∧ Hid (OwnI 3 wr w.heap.size wr.heap.size (.slice p6 n k6) c) ∧ Hid (OwnI 3 wr w.heap.size wr.heap.size s5 ls) ∧ Hid (Cur wr k) ∧ Hid (Frm k (k + 1) w wr))
  case atStart =>
    have hs := Hs1.out
    refine ⟨xs, [], p1, k1, Hp.out, rfl, rfl, Lib.hid (by have := Hln.out; simp; exact this), Lib.hid (LetOk.nil n), Lib.hid (Ho1.out.mono (by rw [size_alloc]; omega) (Nat.le_refl _)), Lib.hid (Ho0.out.mono (Nat.le_refl _) (by omega)), Lib.hid (Hc.out.below Hb1.out), Lib.hid (Frm.of_below Hb1.out _ _)⟩
  case round =>
    obtain ⟨c, ls, p6, k6, hc5, rfl, rfl, hll, hlo, hov, hol, hcu, hf⟩ := hrel
    obtain ⟨wx, rfl⟩ : ∃ x : World, x = wr := ⟨_, rfl⟩
    have Hc5 := Lib.hid hc5
    have Hll := Lib.hid hll.out
    have Hlo := Lib.hid hlo.out
    have Hov := Lib.hid hov.out
    have Hol := Lib.hid hol.out
    have Hcu := Lib.hid hcu.out
    have Hf := Lib.hid hf.out
    have hsx := hf.out.size
    obtain ⟨_, _, e6, hk6, hk66⟩ := hov.out.shape
    injection e6 with e61 e62 e63
    subst e63
    unfold maxLen at hk66
    rw [hc5.len] at hk6
    obtain ⟨m, hm⟩ : ∃ m, m = ls.length := ⟨_, rfl⟩
    have Hm := Lib.hid hm
    obtain ⟨p5, k5, rfl, hk5, hk55⟩ := hol.out.shape
    rw [← hm] at hk5 Hll Hol ⊢
    obtain ⟨L, hL⟩ : ∃ L, L = lnN c := ⟨_, rfl⟩
    have HL := Lib.hid hL
    clear hc5 hll hlo hov hol hcu hf e61 e62 hm
    go_wp2_with fail
    refine (l1Length_any _ c _ Hov.out.ints (by rw [Hc5.out.len]; omega)).mono ?_
    rintro e w2 ⟨rfl, hb2⟩
    rw [← hL]
    have Hb2 := Lib.hid hb2
    have hs2 := hb2.size
    clear hb2 hL
    by_cases h0 : L = 0
    · subst h0
      go_wp2_with fail
      go_ret
      have hll := Hll.out
      first
        | exact ⟨_, rfl, ls, (Hol.out.below Hb2.out).mono (Nat.le_refl _) hs2, Hlo.out, by rw [← Hm.out]; omega, Hcu.out.below Hb2.out, Hf.out.thenB Hb2.out hsx⟩
        | exact ⟨_, ls, rfl, (Hol.out.below Hb2.out).mono (Nat.le_refl _) hs2, Hlo.out, by rw [← Hm.out]; omega, Hcu.out.below Hb2.out, Hf.out.thenB Hb2.out hsx⟩
    · have h0i : (0 : Int) < (L : Int) := by omega
      have hd0 := dscN_some Hc5.out (by rw [← HL.out]; exact h0)
      obtain ⟨ds, hds⟩ : ∃ ds, ds = dscN c (n - 1) := ⟨_, rfl⟩
      have Hds := Lib.hid hds
      have hdl : ds.length ≤ n - 1 := by rw [hds]; exact dscN_le _ _
      rw [← hds] at hd0
      clear hds
      go_wp2_with fail
      refine (specDescents_any n _ c _ (Hov.out.below Hb2.out).ints Hc5.out h1).mono ?_
      rintro e w3 ⟨u3, rfl, ho3, hb3⟩
      rw [← Hds.out] at ho3
      obtain ⟨d, hd⟩ : ∃ d, d = ds.length := ⟨_, rfl⟩
      obtain ⟨p3, k3, rfl, hk3, hk33⟩ := ho3.shape
      have hof3 := ho3.fn
      rw [wz_length, ← hd] at hk3 hof3 ⊢
      rw [← hd] at hd0 hdl
      have Hof3 := Lib.hid hof3
      have Hb3 := Lib.hid hb3
      have hs3 := hb3.size
      have Hd := Lib.hid hd
      clear ho3 hb3 hof3 hd
      go_wp2_with fail
      refine (l1Below_any k d _ ((Hcu.out.below Hb2.out).below Hb3.out) hd0 (by omega)).mono ?_
      rintro e w4 ⟨i, rfl, hi, hc4, hf4⟩
      have Hc4 := Lib.hid hc4
      have hs4 := hf4.size
      have Hov4 := Lib.hid (((Hov.out.below Hb2.out).below Hb3.out).frm hf4 (Or.inr (by omega)))
      have Hol4 := Lib.hid (((Hol.out.below Hb2.out).below Hb3.out).frm hf4 (Or.inr (by omega)))
      have Hf4 := Lib.hid (((Hf.out.thenB Hb2.out hsx).thenB Hb3.out (by omega)).trans hf4)
      have hof4 := Hof3.out.frm hf4 (Or.inr (by omega))
      obtain ⟨g3, rfl, _⟩ := hof4.at_ (by omega)
      have c1 := hof4.cell hi
      unfold iv at c1
      rw [wz_getD (by rw [← Hd.out]; exact hi)] at c1
      have hda := dscN_at (v := c) Hc5.out (i := i) (by rw [← Hds.out, ← Hd.out]; exact hi)
      rw [← Hds.out] at hda
      obtain ⟨t, ht⟩ : ∃ t, t = ds.getD i 0 := ⟨_, rfl⟩
      rw [← ht] at c1 hda
      obtain ⟨htn, htd⟩ := hda
      have Htd := Lib.hid htd
      have hii : (i : Int) < (d : Int) := by omega
      clear hc4 hf4 hof4 ht htd
      go_wp2_with fail
      refine (l1Swap_any _ c t (t + 1) _ Hov4.out.ints (by rw [Hc5.out.len]; omega) (by rw [Hc5.out.len]; omega) (by rw [Hc5.out.len]; omega)).mono ?_
      rintro e w5 ⟨u5, rfl, ho5, hb5⟩
      have hs5 := hb5.size
      obtain ⟨pv, kv, rfl, hkv, hkv2⟩ := ho5.shape
      rw [swapL_length, Hc5.out.len] at ho5 hkv ⊢
      have Ho5 := Lib.hid ho5
      have Hb5 := Lib.hid hb5
      have Hol5 := Lib.hid (Hol4.out.below hb5)
      have Hcu5 := Lib.hid (Hc4.out.below hb5)
      have Hf5 := Lib.hid (Hf4.out.thenB hb5 (by omega))
      clear ho5 hb5
      have hll := Hll.out
      have hbd1 : 1 + m ≤ maxLen := by unfold maxLen; omega
      have hbd2 : (1 + m) * 8 ≤ 140737488355328 := by omega
      have hone := Lib.hid (own_one w5 (t : Int))
      have hrd := Lib.hid (show Rd (w5.alloc (.cells #[.int .i64 (t : Int)] 3)) (.slice p5 m k5) m (iv ls) from by
        have := (Hol5.out.below (below_alloc w5 (.cells #[.int .i64 (t : Int)] 3))).ints
        unfold Ints at this
        rwa [← Hm.out] at this)
      clear hll
      go_wp2_with (at_builtin; go_must (refine wpList_append_F rfl (.tmp 30) (.tmp 31) 24 rfl 3 (.int .i64 0) 8 Try.underlying24 info_int rfl w5.heap.size (w5.heap.size + 1) _ 1 (fun _ => .int .i64 (t : Int)) rfl hone.out (by rw [size_alloc]; omega) (by rw [size_alloc]; omega) _ m _ rfl hrd.out (fun j _ => rfl) hbd1 hbd2 ?_; intro v6 w6 ho6 hg6))
      have hbx : Below w5.heap.size w5 w6 := (below_alloc w5 _).trans (grownBy_below hg6 hone.out.blocks (Nat.le_refl _) (by rw [size_alloc]; omega))
      have Ho6 := Lib.hid ((cons_own ho6 Hm.out.symm rfl).mono (show w.heap.size ≤ w5.heap.size by omega) (Nat.le_refl _))
      have Hbx := Lib.hid hbx
      have hs6 := hbx.size
      have Hdl := Lib.hid (show lnN (sw t c) + 1 = L from by
        have a := (wrd_at Hc5.out).2.2.2
        have b := (wrd_at (Hc5.out.sw htn)).2.2.2
        have e := (Hc5.out.desc htn Htd.out).1
        have := HL.out
        omega)
      clear hg6 ho6 hbx c1
      go_roundg (lnN (sw t c))
      case measure => have := Hdl.out; have := HL.out; omega
      case rel =>
        refine ⟨sw t c, (t : Int) :: ls, pv, kv, Hc5.out.sw htn, rfl, rfl, Lib.hid ?_, Lib.hid (Hlo.out.cons htn), Lib.hid ?_, Ho6, Lib.hid (Hcu5.out.below Hbx.out), Lib.hid (Hf5.out.thenB Hbx.out (by omega))⟩
        · have a := Hll.out
          have b := Hdl.out
          have e := HL.out
          rw [List.length_cons, ← Hm.out]
          omega
        · exact ((Ho5.out.below Hbx.out).mono (show w.heap.size ≤ w4.heap.size by omega) (by omega))

end Go.Proofs.Ytklpaannmdbmiaa
