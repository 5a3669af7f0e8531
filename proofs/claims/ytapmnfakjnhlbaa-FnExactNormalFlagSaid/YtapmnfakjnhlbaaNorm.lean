/-
  NormalFlag and FlagPerm, on both sides.
-/
import Derived.Test.YtapmnfakjnhlbaaNormS
import Derived.Test.YtapmnfakjnhlbaaNormI
import Derived.Test.YtapmnfakjnhlbaaPosL
namespace Go.Proofs.Ytapmnfakjnhlbaa
set_option linter.all false
open Go.RowKit

/-- what FlagPerm returns -/
def FpIs (P R C : Int) (D : List Int) (l : List Int) : Prop :=
  (IsFl P R C D ∧ ∃ X q, NfUp P C.toNat (mf C.toNat fun t => D.getD t 0) X q C.toNat ∧ l = (List.range C.toNat).map fun k => (q k : Int)) ∨ (¬ IsFl P R C D ∧ l = [])
theorem FpIs.one {P R C : Int} {D : List Int} (l l' : List Int) (h : FpIs P R C D l) (h' : FpIs P R C D l') : l = l' := by
  rcases h with ⟨t, X, q, h1, rfl⟩ | ⟨t, rfl⟩
  · rcases h' with ⟨_, X', q', h1', rfl⟩ | ⟨t', _⟩
    · obtain ⟨n, _, rfl, _, _, _, _, hP, _⟩ := t.facts
      have := (NfUp.one hP _ h1 h1').1
      refine List.map_congr_left fun k hk => ?_
      rw [this k (by simpa using hk)]
    · exact absurd t t'
  · rcases h' with ⟨t', _⟩ | ⟨_, rfl⟩
    · exact absurd t' t
    · rfl
theorem FpIs.len {P R C : Int} {D : List Int} (l : List Int) (h : FpIs P R C D l) : l.length ≤ 1000 := by
  rcases h with ⟨t, X, q, _, rfl⟩ | ⟨_, rfl⟩
  · obtain ⟨n, _, rfl, _, hn, _⟩ := t.facts
    simp; omega
  · simp
theorem fperm_len (P R C : Int) (D : List Int) : (Classical.epsilon (LsQ (FpIs P R C D))).length ≤ 1000 := LsQ.len FpIs.len
theorem nats_ints {T : TypeId} {w : World} {lo hi n : Nat} {v : Value} {q : Nat → Nat} (h : OwnF w lo hi T v n (fun k => .int .i64 (q k : Int))) : OwnI T w lo hi v ((List.range n).map fun k => (q k : Int)) := by
  refine OwnF.ints ?_
  rw [List.length_map, List.length_range]
  exact h.congr fun k hk => by simp [iv, List.getD_eq_getElem?_getD, hk]


set_option maxRecDepth 100000 in
set_option maxHeartbeats 4000000 in
theorem specNorm_no (P R C : Int) (d : Value) (D : List Int) (w : World) (hd : Ints w d D) (h : ¬ IsFl P R C D) :
    Calls Try.prog 14 #[.agg #[.int .i64 P, .int .i64 R, .int .i64 C, d]] w (RetMB w mxZero false) := by
  have Hd := Lib.hid hd
  have Hk := Lib.hid h
  obtain ⟨pd, kd, rfl, _⟩ := hd
  clear h
  obtain ⟨z1, z2⟩ := box2_start w 26 26 P R C (.slice pd D.length kd)
  have HB0 := Lib.hid (below_alloc2 w (.cells #[.int .i64 P, .int .i64 R, .int .i64 C, .slice pd D.length kd] 26) (.cells #[.int .i64 0, .int .i64 0, .int .i64 0, .slice none 0 0] 26))
  have Z1 := Lib.hid z1
  have Z2 := Lib.hid z2
  clear z1 z2
  go_enter Try.func14, Try.ntmps14
  go_wp2_with fail
  have hs0 : ((w.alloc (.cells #[.int .i64 P, .int .i64 R, .int .i64 C, .slice pd D.length kd] 26)).alloc (.cells #[.int .i64 0, .int .i64 0, .int .i64 0, .slice none 0 0] 26)).heap.size = w.heap.size + 1 + 1 := by simp
  generalize (w.alloc (.cells #[.int .i64 P, .int .i64 R, .int .i64 C, .slice pd D.length kd] 26)).alloc (.cells #[.int .i64 0, .int .i64 0, .int .i64 0, .slice none 0 0] 26) = w1 at *
  refine (specFlag_no _ _ _ _ _ Hk.out _ (Hd.out.below HB0.out)).mono ?_
  rintro e w2 ⟨rfl, hb⟩
  have hs2 := hb.size
  have HB2 := Lib.hid (HB0.out.trans (hb.mono HB0.out.size))
  have ZA2 := Lib.hid (blk_later Z1.out hb)
  have ZZ2 := Lib.hid (blk_later Z2.out hb)
  clear hb
  obtain ⟨d0, d1, d2, d3, df, dz⟩ := blk4 ZZ2.out
  obtain ⟨f0, f1, f2, f3, ff, fz⟩ := blk4 (set4_all ZZ2.out (.int .i64 0) (.int .i64 0) (.int .i64 0) (.slice none 0 0))
  go_wp2_with fail
  refine bodyPost_ret (v := .tuple #[.agg #[.int .i64 0, .int .i64 0, .int .i64 0, .slice none 0 0], .bool false]) (by simp [results, Try.results14, go_sem, f0, f1, f2, f3, fz]) rfl ⟨_, rfl, ?_, ?_⟩
  · exact ⟨World.ownsRow_nil _ _ _ _, fun k hk => by simp [Value.ownBlock] at hk⟩
  · exact below_set4 HB2.out (by omega) _ _ _ _

set_option maxRecDepth 100000 in
set_option maxHeartbeats 4000000 in
theorem specNorm_yes (P : Int) (n : Nat) (d : Value) (D : List Int) (w : World) (hd : Ints w d D) (h : IsFl P n n D) (hD : D.length = n * n) (hrg : ∀ t, 0 ≤ D.getD t 0 ∧ D.getD t 0 < P) (hP : primeOk P = true) (hn0 : 1 ≤ n) (hn : n ≤ 7) (hrk : HasRank P n n (mf n fun t => D.getD t 0) n) :
    Calls Try.prog 14 #[.agg #[.int .i64 P, .int .i64 (n : Int), .int .i64 (n : Int), d]] w fun e w' => ∃ m, RetMB w m true e w' ∧ ∃ X q, NfUp P n (mf n fun t => D.getD t 0) X q n ∧ m = ⟨P, n, n, flatM n n X⟩ := by
  have Hd := Lib.hid hd
  have Hk := Lib.hid h
  have HD := Lib.hid hD
  have Hrg := Lib.hid hrg
  have Hrk := Lib.hid hrk
  have HP := Lib.hid hP
  obtain ⟨pd, kd, rfl, ⟨_, mx⟩, _⟩ := hd
  unfold maxLen at mx
  clear h hD hrg hrk hP
  obtain ⟨z1, z2⟩ := box2_start w 26 26 P n n (.slice pd D.length kd)
  have HB0 := Lib.hid (below_alloc2 w (.cells #[.int .i64 P, .int .i64 n, .int .i64 n, .slice pd D.length kd] 26) (.cells #[.int .i64 0, .int .i64 0, .int .i64 0, .slice none 0 0] 26))
  have Z1 := Lib.hid z1
  have Z2 := Lib.hid z2
  clear z1 z2
  go_enter Try.func14, Try.ntmps14
  go_wp2_with fail
  have hs0 : ((w.alloc (.cells #[.int .i64 P, .int .i64 n, .int .i64 n, .slice pd D.length kd] 26)).alloc (.cells #[.int .i64 0, .int .i64 0, .int .i64 0, .slice none 0 0] 26)).heap.size = w.heap.size + 1 + 1 := by simp
  generalize (w.alloc (.cells #[.int .i64 P, .int .i64 n, .int .i64 n, .slice pd D.length kd] 26)).alloc (.cells #[.int .i64 0, .int .i64 0, .int .i64 0, .slice none 0 0] 26) = w1 at *
  refine (specFlag_yes _ _ _ _ _ Hk.out _ (Hd.out.below HB0.out)).mono ?_
  rintro e w2 ⟨rfl, hb⟩
  have hs2 := hb.size
  have HB2 := Lib.hid (HB0.out.trans (hb.mono HB0.out.size))
  have ZA2 := Lib.hid (blk_later Z1.out hb)
  have ZZ2 := Lib.hid (blk_later Z2.out hb)
  clear hb
  obtain ⟨m0, m1, m2, m3, mf', mz⟩ := blk4 ZA2.out
  go_wp2_with fail
  refine (l7Normal_any P n _ D _ (Hd.out.below HB2.out) HD.out Hrg.out HP.out hn0 hn Hrk.out).mono ?_
  rintro e w3 ⟨u, v, h, qf, rfl, hu, hv, hb, hnf⟩
  clear m0 m1 m2 m3 mf' mz
  have hs3 := hb.size
  have HB3 := Lib.hid (HB2.out.trans (hb.mono HB2.out.size))
  have Hnf := Lib.hid hnf
  clear hnf
  have ZZ3 := Lib.hid (blk_later ZZ2.out hb)
  obtain ⟨NN, hNN⟩ : ∃ N, N = n * n := ⟨_, rfl⟩
  rw [← hNN] at hu
  obtain ⟨pu, ku, rfl, _, _⟩ := hu.shape
  obtain ⟨pv, kv, rfl, _, _⟩ := hv.shape
  have hfl : OwnI 3 w3 w2.heap.size w3.heap.size (.slice pu NN ku) (flatM n n (mf n h)) := by
    rw [flatM_mf, ← hNN]
    refine OwnF.ints ?_
    rw [List.length_map, List.length_range]
    exact hu.congr fun t ht => by simp [iv, List.getD_eq_getElem?_getD, ht]
  have Hfl := Lib.hid hfl
  have HNN := Lib.hid hNN
  clear hb hu hv hfl hNN
  have Ho := Lib.hid (below_alloc w3 (.cells #[.int .i64 P, .int .i64 (n : Int), .int .i64 (n : Int), .slice pu NN ku] 26))
  obtain ⟨d0, d1, d2, d3, df, dz⟩ := blk4 (blk_later ZZ3.out Ho.out)
  obtain ⟨f0, f1, f2, f3, ff, fz⟩ := blk4 (set4_all (blk_later ZZ3.out Ho.out) (.int .i64 P) (.int .i64 (n : Int)) (.int .i64 (n : Int)) (.slice pu NN ku))
  go_wp2_with fail
  refine bodyPost_ret (v := .tuple #[.agg #[.int .i64 P, .int .i64 (n : Int), .int .i64 (n : Int), .slice pu NN ku], .bool true]) (by simp [results, Try.results14, go_sem, f0, f1, f2, f3, fz]) rfl ⟨⟨P, n, n, flatM n n (mf n h)⟩, ⟨_, rfl, ?_, ?_⟩, mf n h, qf, Hnf.out, rfl⟩
  · exact (own_set4 (Hfl.out.below Ho.out) (.inl (by omega)) _ _ _ _).mono (by omega) (by simp only [size_setCell, size_alloc]; omega)
  · exact below_set4 (HB3.out.trans (Ho.out.mono HB3.out.size)) (by omega) _ _ _ _

set_option maxRecDepth 100000 in
set_option maxHeartbeats 4000000 in
theorem specFp_no (P R C : Int) (d : Value) (D : List Int) (w : World) (hd : Ints w d D) (h : ¬ IsFl P R C D) :
    Calls Try.prog 16 #[.agg #[.int .i64 P, .int .i64 R, .int .i64 C, d]] w (RetI w []) := by
  have Hd := Lib.hid hd
  have Hk := Lib.hid h
  obtain ⟨pd, kd, rfl, _⟩ := hd
  clear h
  have HB0 := Lib.hid (below_alloc w (.cells #[.int .i64 P, .int .i64 R, .int .i64 C, .slice pd D.length kd] 26))
  have Z1 := Lib.hid (heap_alloc_top w (.cells #[.int .i64 P, .int .i64 R, .int .i64 C, .slice pd D.length kd] 26))
  go_enter Try.func16, Try.ntmps16
  go_wp2_with fail
  have hs0 : (w.alloc (.cells #[.int .i64 P, .int .i64 R, .int .i64 C, .slice pd D.length kd] 26)).heap.size = w.heap.size + 1 := by simp
  generalize w.alloc (.cells #[.int .i64 P, .int .i64 R, .int .i64 C, .slice pd D.length kd] 26) = w1 at *
  refine (specFlag_no _ _ _ _ _ Hk.out _ (Hd.out.below HB0.out)).mono ?_
  rintro e w2 ⟨rfl, hb⟩
  have hs2 := hb.size
  have HB2 := Lib.hid (HB0.out.trans (hb.mono HB0.out.size))
  have ZA2 := Lib.hid (blk_later Z1.out hb)
  clear hb
  go_wp2_with fail
  go_ret
  exact ⟨_, rfl, ⟨World.ownsRow_nil _ _ _ _, fun k hk => by simp [Value.ownBlock] at hk⟩, HB2.out⟩

set_option maxRecDepth 100000 in
set_option maxHeartbeats 4000000 in
theorem specFp_yes (P : Int) (n : Nat) (d : Value) (D : List Int) (w : World) (hd : Ints w d D) (h : IsFl P n n D) (hD : D.length = n * n) (hrg : ∀ t, 0 ≤ D.getD t 0 ∧ D.getD t 0 < P) (hP : primeOk P = true) (hn0 : 1 ≤ n) (hn : n ≤ 7) (hrk : HasRank P n n (mf n fun t => D.getD t 0) n) :
    Calls Try.prog 16 #[.agg #[.int .i64 P, .int .i64 (n : Int), .int .i64 (n : Int), d]] w fun e w' => ∃ l, RetI w l e w' ∧ ∃ X q, NfUp P n (mf n fun t => D.getD t 0) X q n ∧ l = (List.range n).map fun k => (q k : Int) := by
  have Hd := Lib.hid hd
  have Hk := Lib.hid h
  have HD := Lib.hid hD
  have Hrg := Lib.hid hrg
  have Hrk := Lib.hid hrk
  have HP := Lib.hid hP
  obtain ⟨pd, kd, rfl, ⟨_, mx⟩, _⟩ := hd
  unfold maxLen at mx
  clear h hD hrg hrk hP
  have HB0 := Lib.hid (below_alloc w (.cells #[.int .i64 P, .int .i64 n, .int .i64 n, .slice pd D.length kd] 26))
  have Z1 := Lib.hid (heap_alloc_top w (.cells #[.int .i64 P, .int .i64 n, .int .i64 n, .slice pd D.length kd] 26))
  go_enter Try.func16, Try.ntmps16
  go_wp2_with fail
  have hs0 : (w.alloc (.cells #[.int .i64 P, .int .i64 n, .int .i64 n, .slice pd D.length kd] 26)).heap.size = w.heap.size + 1 := by simp
  generalize w.alloc (.cells #[.int .i64 P, .int .i64 n, .int .i64 n, .slice pd D.length kd] 26) = w1 at *
  refine (specFlag_yes _ _ _ _ _ Hk.out _ (Hd.out.below HB0.out)).mono ?_
  rintro e w2 ⟨rfl, hb⟩
  have hs2 := hb.size
  have HB2 := Lib.hid (HB0.out.trans (hb.mono HB0.out.size))
  have ZA2 := Lib.hid (blk_later Z1.out hb)
  clear hb
  obtain ⟨m0, m1, m2, m3, mf', mz⟩ := blk4 ZA2.out
  go_wp2_with fail
  refine (l7Normal_any P n _ D _ (Hd.out.below HB2.out) HD.out Hrg.out HP.out hn0 hn Hrk.out).mono ?_
  rintro e w3 ⟨u, v, h, qf, rfl, hu, hv, hb, hnf⟩
  clear m0 m1 m2 m3 mf' mz
  have hs3 := hb.size
  have HB3 := Lib.hid (HB2.out.trans (hb.mono HB2.out.size))
  have Hnf := Lib.hid hnf
  clear hnf
  obtain ⟨pu, ku, rfl, _, _⟩ := hu.shape
  obtain ⟨pv, kv, rfl, _, _⟩ := hv.shape
  have Hq := Lib.hid (nats_ints hv)
  clear hb hu hv
  go_wp2_with fail
  go_ret
  exact ⟨_, ⟨_, rfl, (Hq.out.below (below_alloc _ _)).mono (by omega) (by simp), HB3.out.trans ((below_alloc _ _).mono HB3.out.size)⟩, mf n h, qf, Hnf.out, rfl⟩

set_option maxRecDepth 100000 in
set_option maxHeartbeats 4000000 in
theorem implFp_no (P R C : Int) (d : Value) (D : List Int) (w : World) (hd : Ints w d D) (h : ¬ IsFl P R C D) :
    Calls Try.prog 17 #[.agg #[.int .i64 P, .int .i64 R, .int .i64 C, d]] w (RetI w []) := by
  have Hd := Lib.hid hd
  have Hk := Lib.hid h
  obtain ⟨pd, kd, rfl, _⟩ := hd
  clear h
  have HB0 := Lib.hid (below_alloc w (.cells #[.int .i64 P, .int .i64 R, .int .i64 C, .slice pd D.length kd] 26))
  have Z1 := Lib.hid (heap_alloc_top w (.cells #[.int .i64 P, .int .i64 R, .int .i64 C, .slice pd D.length kd] 26))
  go_enter Try.func17, Try.ntmps17
  go_wp2_with fail
  have hs0 : (w.alloc (.cells #[.int .i64 P, .int .i64 R, .int .i64 C, .slice pd D.length kd] 26)).heap.size = w.heap.size + 1 := by simp
  generalize w.alloc (.cells #[.int .i64 P, .int .i64 R, .int .i64 C, .slice pd D.length kd] 26) = w1 at *
  refine (implNorm_no P R C _ D _ (Hd.out.below HB0.out) Hk.out).mono ?_
  rintro e w2 ⟨u, rfl, ho, hb⟩
  obtain ⟨pu, ku, rfl, _, _⟩ := ho.shape
  have HB2 := Lib.hid (HB0.out.trans (hb.mono HB0.out.size))
  clear ho hb
  go_wp2_with fail
  go_ret
  exact ⟨_, rfl, ⟨World.ownsRow_nil _ _ _ _, fun k hk => by simp [Value.ownBlock] at hk⟩, HB2.out.trans ((below_alloc _ _).mono HB2.out.size)⟩

set_option maxRecDepth 100000 in
set_option maxHeartbeats 4000000 in
theorem implFp_yes (P : Int) (n : Nat) (d : Value) (D : List Int) (w : World) (hd : Ints w d D) (h : IsFl P n n D) (hD : D.length = n * n) (hrg : ∀ t, 0 ≤ D.getD t 0 ∧ D.getD t 0 < P) (hP : primeOk P = true) (hn0 : 1 ≤ n) (hn : n ≤ 7) (hrk : HasRank P n n (mf n fun t => D.getD t 0) n) :
    Calls Try.prog 17 #[.agg #[.int .i64 P, .int .i64 (n : Int), .int .i64 (n : Int), d]] w fun e w' => ∃ l, RetI w l e w' ∧ ∃ X q, NfUp P n (mf n fun t => D.getD t 0) X q n ∧ l = (List.range n).map fun k => (q k : Int) := by
  have Hd := Lib.hid hd
  have Hk := Lib.hid h
  have HD := Lib.hid hD
  have Hrg := Lib.hid hrg
  have Hrk := Lib.hid hrk
  have HP := Lib.hid hP
  obtain ⟨pd, kd, rfl, ⟨_, mx⟩, _⟩ := hd
  unfold maxLen at mx
  clear h hD hrg hrk hP
  have HB0 := Lib.hid (below_alloc w (.cells #[.int .i64 P, .int .i64 n, .int .i64 n, .slice pd D.length kd] 26))
  have Z1 := Lib.hid (heap_alloc_top w (.cells #[.int .i64 P, .int .i64 n, .int .i64 n, .slice pd D.length kd] 26))
  go_enter Try.func17, Try.ntmps17
  go_wp2_with fail
  have hs0 : (w.alloc (.cells #[.int .i64 P, .int .i64 n, .int .i64 n, .slice pd D.length kd] 26)).heap.size = w.heap.size + 1 := by simp
  generalize w.alloc (.cells #[.int .i64 P, .int .i64 n, .int .i64 n, .slice pd D.length kd] 26) = w1 at *
  refine (implNorm_yes P n _ D _ (Hd.out.below HB0.out) Hk.out HD.out Hrg.out HP.out hn0 hn Hrk.out).mono ?_
  rintro e w2 ⟨m, ⟨u, rfl, ho, hb⟩, X, q, hnf, rfl⟩
  obtain ⟨D2, hD2⟩ : ∃ D2, D2 = flatM n n X := ⟨_, rfl⟩
  have ho2 : OwnI 3 w2 w1.heap.size w2.heap.size u D2 := by rw [hD2]; exact ho
  have hl2 : D2.length = n * n := by rw [hD2, flatM_length]
  clear ho
  obtain ⟨pu, ku, rfl, _, _⟩ := ho2.shape
  have hs2 := hb.size
  have HB2 := Lib.hid (HB0.out.trans (hb.mono HB0.out.size))
  have HI2 := Lib.hid ho2.ints
  have Hl2 := Lib.hid hl2
  have Hpv : Hid (∀ k, k < n → pivL (rowAt n D2 k) = (q k : Nat) ∧ (rowAt n D2 k).length = n) := by
    intro k hk
    have hl : (rowAt n D2 k).length = n := rowAt_length (by rw [hl2]; exact mul_le_of hk)
    have hX : ∀ j, j < n → (rowAt n D2 k).getD j 0 = X k j := fun j hj => by
      rw [rowAt_getD hj, hD2]
      unfold flatM
      have := flat_lt hk hj
      obtain ⟨e1, e2⟩ := div_at (k := k) hj
      simp [List.getD_eq_getElem?_getD, this, e1, e2]
    obtain ⟨b1, b2, b3, v, b4, b5⟩ := hnf k hk
    refine ⟨pivL_at (by rw [hl]; exact b1) ?_ fun j hj => ?_, hl⟩
    · rw [hX _ b1, b5 _ b1, b4]; decide
    · rw [hX j (by omega), b5 j (by omega), b2 j hj, Int.mul_zero]; rfl
  have Hnf := Lib.hid hnf
  clear hb ho2 hl2 hD2 hnf
  go_wp2_with fail
  obtain ⟨bx, hbx⟩ : ∃ bx : Obj, bx = .cells #[.int .i64 P, .int .i64 (n : Int), .int .i64 (n : Int), .slice pu D2.length ku] 26 := ⟨_, rfl⟩
  have hBB : Below w2.heap.size w2 ((w2.alloc bx).alloc (.cells #[] 3)) := below_alloc2 _ _ _
  have hsB : ((w2.alloc bx).alloc (.cells #[] 3)).heap.size = w2.heap.size + 1 + 1 := by simp
  have Hm0 := Lib.hid (OwnF.made0 (w2.alloc bx) 3 (iv []))
  have hsm : (w2.alloc bx).heap.size = w2.heap.size + 1 := by simp
  rw [hsm] at Hm0
  rw [← hbx]
  simp only [hsm] at *
  generalize (w2.alloc bx).alloc (.cells #[] 3) = wB at *
  refine (lines_any P n n _ D2 _ (HI2.out.below hBB) (by omega) (by omega) hn0 Hl2.out).mono ?_
  rintro e w3 ⟨ul, rfl, hoL, hb3⟩
  obtain ⟨f, g1, g2, _⟩ := hoL
  rw [rowsOf_length] at g1 g2
  obtain ⟨qL, gL, rfl, hgL1, hgL2, _⟩ := g1.shape
  unfold maxLen at hgL2
  have hs3 := hb3.size
  have G1 := Lib.hid g1
  have G2 := Lib.hid g2
  have HB3 := Lib.hid (HB2.out.trans ((hBB.trans (hb3.mono (by omega))).mono HB2.out.size))
  have Hm3 := Lib.hid (Hm0.out.below hb3)
  clear g1 g2 hb3 hBB hbx Hm0
  go_wp2_with fail
  go_loopg [5, 19] n (fun g s5 s19 wr => ∃ (k : Nat) (l : List Int), k ≤ n ∧ g = n - k ∧ s19 = .int .i64 k ∧ w3.heap.size ≤ wr.heap.size ∧ Hid (Below w.heap.size w wr) ∧ Hid (OwnI 3 wr (w2.heap.size + 1) wr.heap.size s5 l) ∧ Hid (l = (List.range k).map fun k => (q k : Int)) ∧
    Hid (∀ b, s5.ownBlock = some b → b < wB.heap.size ∨ w3.heap.size ≤ b) ∧ Hid (∀ b, wB.heap.size ≤ b → b < w3.heap.size → wr.heap[b]? = w3.heap[b]?))
  case atStart =>
    refine ⟨0, [], Nat.zero_le _, rfl, rfl, Nat.le_refl _, HB3.out, ?_, rfl, fun b hb => ?_, fun b _ _ => rfl⟩
    · exact OwnF.ints (xs := []) (Hm3.out.mono (Nat.le_refl _) (by omega))
    · simp only [Value.ownBlock, Option.some.injEq] at hb
      omega
  case round =>
    obtain ⟨k, l, hk, rfl, rfl, hsz, hbw, hol, hlv, hne, hkeep⟩ := hrel
    obtain ⟨wr', rfl⟩ : ∃ x : World, x = wr := ⟨_, rfl⟩
    obtain ⟨p5, k5, rfl, hk5, hk5b⟩ := hol.out.shape
    unfold maxLen at hk5b
    by_cases hkn : k < n
    · have hl5 : l.length = k := by rw [hlv.out]; simp
      have hG1 := G1.out.keep (fun b h1 h2 _ => hkeep.out b h1 h2)
      obtain ⟨gl, rfl, _, _, _⟩ := hG1.at_ (by omega)
      have cl := hG1.cell hkn
      have hG2 := Own.keep (G2.out k hkn) (fun b h1 h2 _ => hkeep.out b h1 h2)
      rw [rowsOf_getD hkn] at hG2
      obtain ⟨hpv, hrl⟩ := Hpv.out k hkn
      obtain ⟨pt, kt, et, hkt1, hkt2⟩ := OwnI.shapeC hG2 hrl
      unfold maxLen at hkt2
      have hfi := OwnI.ints hG2
      rw [et] at cl hfi
      have Hfi := Lib.hid hfi
      have Hpq := Lib.hid hpv
      have hkn2 : (k : Int) < (n : Int) := by omega
      have Hl5 := Lib.hid hl5
      have Hl1 := Lib.hid (show l.length + 1 ≤ maxLen by unfold maxLen; omega)
      have Hl2' := Lib.hid (show (l.length + 1) * 8 ≤ 140737488355328 by omega)
      clear hl5 hG1 hG2 hpv hrl et hfi
      go_wp2_with fail
      refine (pivot_q _ _ (q k) _ Hfi.out Hpq.out).mono ?_
      rintro e wp ⟨rfl, hb⟩
      have hsp := hb.size
      have Hol := Lib.hid (hol.out.below hb)
      have Hb := Lib.hid hb
      clear hb cl
      go_wp2_with (at_builtin; go_must (refine wpList_append_G rfl (.tmp 23) (.tmp 26) 22 rfl 3 (.int .i64 0) 8 Try.underlying22 info_int rfl (w2.heap.size + 1) wr'.heap.size _ l.length _ rfl (Hol.out.fn.below (below_alloc _ _)) (by simp; omega) (by simp; omega) _ _ _ rfl (rd_one _ _ _ rfl) (fun j _ => rfl) Hl1.out Hl2'.out ?_; intro v' w' ho' hg' hwh))
      have hol2 := OwnI.snoc1 ho'
      have hsw' := hg'.size
      simp only [size_alloc] at hsw'
      go_roundg (n - (k + 1))
      case measure => omega
      case rel =>
        refine ⟨k + 1, l ++ [(q k : Int)], hkn, rfl, by go_num, by omega, ?_, hol2, ?_, ?_, ?_⟩
        · exact (hbw.out.trans (Hb.out.mono hbw.out.size)).trans (((below_alloc wp _).mono (by have := hbw.out.size; omega)).trans (grownBy_below hg' (OwnF.blocks Hol.out.fn) (by have := HB2.out.size; omega) (by have := hbw.out.size; simp; omega)))
        · show l ++ [(q k : Int)] = _
          rw [hlv.out, List.range_succ, List.map_append]; rfl
        · intro b hb
          rcases hwh b hb with h | h
          · exact hne.out b h
          · simp only [size_alloc] at h
            right; omega
        · intro b h1 h2
          have e1 : w'.heap[b]? = (wp.alloc (.cells #[.int .i64 (q k : Int)] 3)).heap[b]? := hg'.block b (by simp; omega) fun e => by
            rcases hne.out b e.symm with h | h <;> omega
          rw [e1, heap_alloc_low _ _ (by omega), Hb.out.block b (by omega)]
          exact hkeep.out b h1 h2
    · obtain rfl : k = n := by omega
      go_wp2_with fail
      go_ret
      exact ⟨l, ⟨_, rfl, hol.out.mono (by have := HB2.out.size; omega) (Nat.le_refl _), hbw.out⟩, X, q, Hnf.out, hlv.out⟩

theorem specNorm_any (P R C : Int) (d : Value) (D : List Int) (w : World) (hd : Ints w d D) :
    Calls Try.prog 14 #[.agg #[.int .i64 P, .int .i64 R, .int .i64 C, d]] w (RetMB w (Classical.epsilon (PrQ (NfIs P R C D))).1 (Classical.epsilon (PrQ (NfIs P R C D))).2) := by
  suffices hh : Calls Try.prog 14 #[.agg #[.int .i64 P, .int .i64 R, .int .i64 C, d]] w fun e w' => ∃ m ok, NfIs P R C D m ok ∧ RetMB w m ok e w' from
    hh.mono fun e w' ⟨m, ok, h1, h2⟩ => by
      obtain ⟨e1, e2⟩ := PrQ.eps NfIs.one h1
      rw [← e1, ← e2]; exact h2
  rcases Classical.em (IsFl P R C D) with h | h
  · obtain ⟨n, rfl, rfl, hn0, hn, hlD, hD, hP2, hP7, hpr, hrk⟩ := h.facts
    exact (specNorm_yes P n d D w hd h hlD (fun t => getD_range hD (by omega) t) hpr hn0 hn hrk).mono fun e w' ⟨m, r1, X, q, r2, r3⟩ => ⟨m, true, .inl ⟨h, rfl, X, q, r2, r3⟩, r1⟩
  · exact (specNorm_no P R C d D w hd h).mono fun e w' r => ⟨_, _, .inr ⟨h, rfl, rfl⟩, r⟩
theorem specFp_any (P R C : Int) (d : Value) (D : List Int) (w : World) (hd : Ints w d D) :
    Calls Try.prog 16 #[.agg #[.int .i64 P, .int .i64 R, .int .i64 C, d]] w (RetI w (Classical.epsilon (LsQ (FpIs P R C D)))) := by
  suffices hh : Calls Try.prog 16 #[.agg #[.int .i64 P, .int .i64 R, .int .i64 C, d]] w fun e w' => ∃ l, FpIs P R C D l ∧ RetI w l e w' from
    hh.mono fun e w' ⟨l, h1, h2⟩ => LsQ.eps FpIs.one h1 ▸ h2
  rcases Classical.em (IsFl P R C D) with h | h
  · obtain ⟨n, rfl, rfl, hn0, hn, hlD, hD, hP2, hP7, hpr, hrk⟩ := h.facts
    exact (specFp_yes P n d D w hd h hlD (fun t => getD_range hD (by omega) t) hpr hn0 hn hrk).mono fun e w' ⟨l, r1, X, q, r2, r3⟩ => ⟨l, .inl ⟨h, X, q, r2, r3⟩, r1⟩
  · exact (specFp_no P R C d D w hd h).mono fun e w' r => ⟨_, .inr ⟨h, rfl⟩, r⟩

theorem implNorm_any (P R C : Int) (d : Value) (D : List Int) (w : World) (hd : Ints w d D) :
    Calls Try.prog 15 #[.agg #[.int .i64 P, .int .i64 R, .int .i64 C, d]] w (RetMB w (Classical.epsilon (PrQ (NfIs P R C D))).1 (Classical.epsilon (PrQ (NfIs P R C D))).2) := by
  suffices hh : Calls Try.prog 15 #[.agg #[.int .i64 P, .int .i64 R, .int .i64 C, d]] w fun e w' => ∃ m ok, NfIs P R C D m ok ∧ RetMB w m ok e w' from
    hh.mono fun e w' ⟨m, ok, h1, h2⟩ => by
      obtain ⟨e1, e2⟩ := PrQ.eps NfIs.one h1
      rw [← e1, ← e2]; exact h2
  rcases Classical.em (IsFl P R C D) with h | h
  · obtain ⟨n, rfl, rfl, hn0, hn, hlD, hD, hP2, hP7, hpr, hrk⟩ := h.facts
    exact (implNorm_yes P n d D w hd h hlD (fun t => getD_range hD (by omega) t) hpr hn0 hn hrk).mono fun e w' ⟨m, r1, X, q, r2, r3⟩ => ⟨m, true, .inl ⟨h, rfl, X, q, r2, r3⟩, r1⟩
  · exact (implNorm_no P R C d D w hd h).mono fun e w' r => ⟨_, _, .inr ⟨h, rfl, rfl⟩, r⟩
theorem implFp_any (P R C : Int) (d : Value) (D : List Int) (w : World) (hd : Ints w d D) :
    Calls Try.prog 17 #[.agg #[.int .i64 P, .int .i64 R, .int .i64 C, d]] w (RetI w (Classical.epsilon (LsQ (FpIs P R C D)))) := by
  suffices hh : Calls Try.prog 17 #[.agg #[.int .i64 P, .int .i64 R, .int .i64 C, d]] w fun e w' => ∃ l, FpIs P R C D l ∧ RetI w l e w' from
    hh.mono fun e w' ⟨l, h1, h2⟩ => LsQ.eps FpIs.one h1 ▸ h2
  rcases Classical.em (IsFl P R C D) with h | h
  · obtain ⟨n, rfl, rfl, hn0, hn, hlD, hD, hP2, hP7, hpr, hrk⟩ := h.facts
    exact (implFp_yes P n d D w hd h hlD (fun t => getD_range hD (by omega) t) hpr hn0 hn hrk).mono fun e w' ⟨l, r1, X, q, r2, r3⟩ => ⟨l, .inl ⟨h, X, q, r2, r3⟩, r1⟩
  · exact (implFp_no P R C d D w hd h).mono fun e w' r => ⟨_, .inr ⟨h, rfl⟩, r⟩

end Go.Proofs.Ytapmnfakjnhlbaa
