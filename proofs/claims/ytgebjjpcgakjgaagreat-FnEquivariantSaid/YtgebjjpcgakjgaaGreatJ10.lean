/-
  double: the double Schubert polynomial of a permutation.
  Divided differences of values: the braid of three. Plain.
  What divided differences do to the values of a polynomial, and what a change by multiples of a number does. Plain.
  Neighbours of permutations of at most five, and the divided differences along any way. Plain.
  slices.Index and slices.Contains at []int.
  What the program asks of numbers; its exchange of two places; the search among permutations.
  staircase, schubert, SchubertPoly, DoubleSchubert.
-/
import Derived.Test.YtgebjjpcgakjgaaGreatJ8
import Derived.Test.YtgebjjpcgakjgaaGreatJ1
import Derived.Test.YtgebjjpcgakjgaaGreatJ5
import Derived.Test.YtgebjjpcgakjgaaGreatJ2
import Derived.Test.YtgebjjpcgakjgaaGreatJ4
import Derived.BigRegion
import Derived.Test.YtgebjjpcgakjgaaGreatJ9
namespace Go.Proofs.YtgebjjpcgakjgaaGreat
set_option linter.all false
set_option maxRecDepth 100000
open Go.RowKit Go.Maps Go.WideMaps Go.WideElems Go.MapKept Go.ChangeMaps Go.ChangeShapes

/-- how many factors there are ahead of row i -/
def topS (n : Nat) : Nat → Nat
  | 0 => 0
  | i + 1 => topS n i + (n - 1 - i)
theorem topS_le {n i j : Nat} (hn : n ≤ 5) (hi : i < n) (hj : j ≤ n - 1 - i) : topS n i + j ≤ 10 := by
  have h : ∀ n : Fin 6, ∀ i : Fin 6, (i : Nat) < n → topS n i + (n - 1 - i) ≤ 10 := by decide
  have := h ⟨n, by omega⟩ ⟨i, by omega⟩ hi
  simp only at this
  omega
theorem topS_end {n : Nat} (hn : n ≤ 5) : topS n n ≤ 10 := by
  have h : ∀ n : Fin 6, topS n n ≤ 10 := by decide
  exact h ⟨n, by omega⟩

set_option maxRecDepth 100000 in
set_option maxHeartbeats 4000000 in
theorem double_any (vw vy : Value) (xs ys : List Int) (w : World) (hw : Ints w vw xs) (hy : Ints w vy ys) (h1 : 1 ≤ xs.length) (h5 : xs.length ≤ 5) (hyl : ys.length = xs.length) (hb : ∀ x ∈ ys, -9 ≤ x ∧ x ≤ 9) (hok : lowOk 10 xs = true) :
    Calls Tryz.prog 36 #[vw, vy] w fun e w' => ∃ u', e = .returned u' ∧ PolV w' u' 10 10240000000000 (dblP xs ys) ∧ Below w.heap.size w w' := by
  have Hw := Lib.hid hw
  have Hy := Lib.hid hy
  obtain ⟨pw, cw, rfl, ⟨hw1, hw2⟩, hwc⟩ := hw
  obtain ⟨py, cy, rfl, ⟨hy1, hy2⟩, hyc⟩ := hy
  unfold maxLen at hw2 hy2
  have Hyc := Lib.hid hyc
  have hmm := @run_makeMap Tryz.prog
  have hbd := buildE
  have hkey : keyOf Tryz.prog 75 (.agg #[.int .i64 0, .int .i64 0, .int .i64 0, .int .i64 0, .int .i64 0, .int .i64 0, .int .i64 0]) = some (kl [0, 0, 0, 0, 0, 0, 0]) := keyOf_kv (e := [0, 0, 0, 0, 0, 0, 0]) (d := 0) ⟨rfl, by simp⟩ (by omega)
  have hown0 := World.ownsMap_made (H := Unit) w Tryz.prog 75 (plainElem Tryz.prog 3)
  clear hwc hyc
  go_enter Tryz.func36, Tryz.ntmps36
  go_wp2_with (first
    | (refine wpList_insert_own rfl _ _ _ rfl w.heap.size 0 _ rfl hown0 (by omega) _ _ 1 rfl rfl hkey (by decide) ?_; intro w0 hown1 hg0; go_frame)
    | fail)
  have hp0 : PolV w0 (.map (some w.heap.size)) 0 1 (topI xs.length ys 0) := ⟨_, _, rfl, hown1, by
    have := (PolM.empty 0).putNew (e := [0, 0, 0, 0, 0, 0, 0]) (c := 1) (by omega) ⟨rfl, by simp⟩ rfl (by decide)
    exact this⟩
  have Hp0 := Lib.hid hp0
  have Hb0 := Lib.hid (show Below w.heap.size w w0 from ((Below.refl _ _).alloc (Nat.le_refl _) _).grown hg0 (by simp) (fun j hj => by cases hj; exact Nat.le_refl _))
  obtain ⟨n, hn⟩ : ∃ n, n = xs.length := ⟨_, rfl⟩
  have hn5 : n ≤ 5 := by omega
  have hn1 : 1 ≤ n := by omega
  obtain ⟨B, hB⟩ : ∃ B, B = w.heap.size := ⟨_, rfl⟩
  rw [hyl] at hy1 ⊢
  rw [← hn] at hyl hw1 hy1 Hp0 ⊢
  have hb0 := Lib.hid hb
  clear hown1 hp0 hg0 hown0 hkey hbd hmm hb
  have Hn := Lib.hid hn
  have HB := Lib.hid hB
  rw [← hB] at Hb0 Hp0 ⊢
  clear hn hB
  go_loopg [6, 7, 8, 15] n (fun g s6 s7 s8 s15 wr => ∃ (i b : Nat), i ≤ n ∧ g = n - i ∧ s15 = .int .i64 (i : Int) ∧ s6 = .map (some b) ∧ Hid (PolV wr (.map (some b)) (topS n i) (2 ^ topS n i) (topI n ys i)) ∧ Hid (Below B w wr))
  case atStart => exact ⟨0, B, Nat.zero_le _, rfl, rfl, rfl, Hp0, Hb0⟩
  case round =>
    obtain ⟨i, b, hi, rfl, rfl, rfl, hp, hb⟩ := hrel
    obtain ⟨wx, rfl⟩ : ∃ x : World, x = wr := ⟨_, rfl⟩
    by_cases hin : i < n
    · have hini : (i : Int) < (n : Int) := by omega
      have hbnd : (n : Int) - 1 - (i : Int) = ((n - 1 - i : Nat) : Int) := by omega
      have Hp := Lib.hid hp.out
      have Hb := Lib.hid hb.out
      clear hp hb
      go_wp2_with fail
      go_loopg [6, 8, 22] (n - 1 - i) (fun g s6 s8 s22 wr => ∃ (j b : Nat), j ≤ n - 1 - i ∧ g = n - 1 - i - j ∧ s22 = .int .i64 (j : Int) ∧ s6 = .map (some b) ∧ Hid (PolV wr (.map (some b)) (topS n i + j) (2 ^ (topS n i + j)) (topJ i ys j (topI n ys i))) ∧ Hid (Below B w wr))
      case atStart => exact ⟨0, b, Nat.zero_le _, rfl, rfl, rfl, Hp, Hb⟩
      case round =>
        obtain ⟨j, b2, hj, rfl, rfl, rfl, hp, hb⟩ := hrel
        obtain ⟨wy, rfl⟩ : ∃ x : World, x = wr := ⟨_, rfl⟩
        by_cases hjn : j < n - 1 - i
        · have hjni : (j : Int) < (n : Int) - 1 - (i : Int) := by omega
          have hjn2 : (j : Int) < (n : Int) := by omega
          obtain ⟨bY, oy, rfl, hcy⟩ := Hyc.out (by omega)
          have c0 := hcy j (by omega)
          unfold iv at c0
          obtain ⟨y, hyj⟩ : ∃ y, y = ys.getD j 0 := ⟨_, rfl⟩
          have hyb := hb0.out y (by rw [hyj]; exact getD_mem (by omega))
          rw [← hyj] at c0
          have c1 : wy.cell? ⟨bY, oy + j, none⟩ = some (.int .i64 y) := cell_below (HB.out ▸ hb.out) c0
          have Hyj := Lib.hid hyj
          have hs := topS_le hn5 hin (j := j + 1) (by omega)
          have hpow : 2 ^ (topS n i + j) ≤ 1024 := Nat.le_trans (Nat.pow_le_pow_right (by omega) (show topS n i + j ≤ 10 by omega)) (by decide)
          have hp2 := PolV.below (w' := wy.drew) hp.out (Below.refl _ _).drew
          obtain ⟨N, hN⟩ : ∃ N, N = 2 ^ (topS n i + j) := ⟨_, rfl⟩
          obtain ⟨d0, hd0⟩ : ∃ d0, d0 = topS n i + j := ⟨_, rfl⟩
          obtain ⟨T, hT⟩ : ∃ T, T = topJ i ys j (topI n ys i) := ⟨_, rfl⟩
          have hd10 : d0 + 1 ≤ 10 := by omega
          rw [← hN, ← hT, ← hd0] at hp2
          rw [← hN] at hpow
          have Hp2 := Lib.hid hp2
          have HN := Lib.hid hN
          have HT := Lib.hid hT
          have Hd0 := Lib.hid hd0
          have Hb2 := Lib.hid (show Below B w wy.drew from hb.out.drew)
          have hwn : IntKind.i64.wrap (-y) = -y := k64 (by omega) (by omega)
          have c1' : wy.drew.cell? ⟨bY, oy + j, none⟩ = some (.int .i64 y) := c1
          clear hcy c0 hyj hs hp2 hN hT hd0 hp hb
          go_wp2_with fail
          go_region_held3 (fun w' => w'.cell? ⟨bY, oy + j, none⟩ = some (.int .i64 y))
            (first | with_reducible assumption | (trace_state; fail))
            (first
              | (go_at_call 56; refine (raised_any _ i d0 N T _ Hp2.out (by omega) (by omega) (by omega)).mono ?_; rintro e w1 ⟨u1, rfl, hp1, hb1⟩; have Hp1 := Lib.hid hp1; obtain ⟨b1, D1, rfl, _, _⟩ := hp1; have c2 := cell_below hb1 c1'; have Hb1 := Lib.hid hb1)
              | (go_at_call 52; refine (plus_any _ _ (-y) (d0 + 1) N N (rsP i T) T _ Hp1.out ((Hp2.out.below Hb1.out).mono (Nat.le_succ _) (Nat.le_refl _)) (by omega) (by omega)).mono ?_; rintro e w2 ⟨u2, rfl, hp3, hb3⟩; have Hp3 := Lib.hid hp3; obtain ⟨b3, D3, rfl, _, _⟩ := hp3; have c3 := cell_below hb3 c2; have Hb3 := Lib.hid hb3))
          clear hwn
          go_wp2_with fail
          go_roundg (n - 1 - i - (j + 1))
          case measure => omega
          case rel =>
            refine ⟨j + 1, b3, by omega, rfl, by go_num, rfl, Lib.hid ?_, Lib.hid ((Hb2.out.trans (Hb1.out.mono (Nat.le_trans (Nat.le_of_eq HB.out) Hb2.out.size))).trans (Hb3.out.mono (Nat.le_trans (Nat.le_of_eq HB.out) (Nat.le_trans Hb2.out.size Hb1.out.size))))⟩
            have := Hp3.out
            rw [Hd0.out, HN.out, HT.out, Hyj.out] at this
            rw [topJ, ← Nat.add_assoc, Nat.pow_succ, Nat.mul_two]
            exact this
        · have hjni : ¬ (j : Int) < (n : Int) - 1 - (i : Int) := by omega
          obtain rfl : j = n - 1 - i := by omega
          go_wp2_with fail
          go_roundg (n - (i + 1))
          case measure => omega
          case rel => exact ⟨i + 1, b2, by omega, rfl, by go_num, rfl, hp, hb⟩
    · have hini : ¬ (i : Int) < (n : Int) := by omega
      have hie : n = i := by omega
      subst hie
      have h0 := topS_end hn5
      have hpow : 2 ^ topS n n ≤ 1024 := Nat.le_trans (Nat.pow_le_pow_right (by omega) h0) (by decide)
      have hp1 := hp.out.mono h0 hpow
      have Hp1 := Lib.hid hp1
      have Hb1 := Lib.hid hb.out
      have Hok := Lib.hid hok
      have Hw2 : Hid (Ints w (.slice pw n cw) xs) := by rw [Hn.out]; exact Hw
      clear hp hb hp1 hpow h0 hok
      go_wp2_with fail
      refine (lowered_any 10 (topI n ys n) (by omega) (by omega) 10 xs _ _ 1024 _ Hok.out h5 Hp1.out (by decide) (Hw2.out.below (HB.out ▸ Hb1.out))).mono ?_
      rintro e w1 ⟨u1, rfl, hp2, hb2⟩
      have Hp2 := Lib.hid hp2
      have Hb2 := Lib.hid (Hb1.out.trans (hb2.mono (Nat.le_trans (Nat.le_of_eq HB.out) Hb1.out.size)))
      obtain ⟨b1, D1, rfl, _, _⟩ := hp2
      clear hb2
      go_wp2_with fail
      go_ret
      refine ⟨_, rfl, ?_, HB.out ▸ Hb2.out⟩
      rw [dblP, ← Hn.out]
      exact Hp2.out

end Go.Proofs.YtgebjjpcgakjgaaGreat

namespace Go.Proofs.YtgebjjpcgakjgaaGreat
set_option linter.all false
set_option maxRecDepth 100000

theorem cancel {a b : Int} (ha : a ≠ 0) (h : a * b = 0) : b = 0 := (Int.mul_eq_zero.1 h).resolve_left ha
theorem step2 {a b c p q r s u v w : Int} (h1 : a * u = p) (h2 : b * v = q) (h3 : c * w = u - v) : a * b * c * w = b * p - a * q := by
  have : a * b * c * w = a * b * (c * w) := by grind
  rw [this, h3]
  have : a * b * (u - v) = b * (a * u) - a * (b * v) := by grind
  rw [this, h1, h2]
theorem braid (x y z p0 p1 p2 p12 p21 p121 al al2 al12 be be1 de ga ga1 ga2 ga21 ep ep2 : Int) (hxy : x - y ≠ 0) (hxz : x - z ≠ 0) (hyz : y - z ≠ 0)
  (h1 : (x - y) * al = p0 - p1) (h2 : (x - z) * al2 = p2 - p21) (h3 : (y - z) * al12 = p12 - p121)
  (h4 : (y - z) * be = al - al2) (h5 : (x - z) * be1 = al - al12) (h6 : (x - y) * de = be - be1)
  (g1 : (y - z) * ga = p0 - p2) (g2 : (x - z) * ga1 = p1 - p12) (g3 : (x - y) * ga21 = p21 - p121)
  (g4 : (x - y) * ep = ga - ga1) (g5 : (x - z) * ep2 = ga - ga21) : (y - z) * de = ep - ep2 := by
  have e1 := step2 h1 h2 h4 (r := 0) (s := 0)
  have e2 := step2 h1 h3 h5 (r := 0) (s := 0)
  have e3 := step2 g1 g2 g4 (r := 0) (s := 0)
  have e4 := step2 g1 g3 g5 (r := 0) (s := 0)
  clear h1 h2 h3 h4 h5 g1 g2 g3 g4 g5
  have d1 : (x - y) * (x - z) * (y - z) * ((x - y) * de) = (x - y) * (p0 - p1 - p2 + p12 + p21 - p121) := by
    rw [h6]
    have : (x - y) * (x - z) * (y - z) * (be - be1) = (x - y) * (x - z) * (y - z) * be - (x - y) * (y - z) * (x - z) * be1 := by grind
    rw [this, e1, e2]
    grind
  have d2 : (x - y) * (x - z) * (y - z) * (ep - ep2) = (y - z) * (p0 - p1 - p2 + p12 + p21 - p121) := by
    have : (x - y) * (x - z) * (y - z) * (ep - ep2) = (y - z) * (x - z) * (x - y) * ep - (y - z) * (x - y) * (x - z) * ep2 := by grind
    rw [this, e3, e4]
    grind
  clear e1 e2 e3 e4 h6
  have c1 : (x - y) * (x - z) * (y - z) * de = p0 - p1 - p2 + p12 + p21 - p121 := by
    have : (x - y) * ((x - y) * (x - z) * (y - z) * de - (p0 - p1 - p2 + p12 + p21 - p121)) = 0 := by
      have t : ∀ A p : Int, (x - y) * (A * de - p) = A * ((x - y) * de) - (x - y) * p := fun A p => by grind
      rw [t, d1]; omega
    have := cancel hxy this
    omega
  have c2 : (x - y) * (x - z) * (ep - ep2) = p0 - p1 - p2 + p12 + p21 - p121 := by
    have : (y - z) * ((x - y) * (x - z) * (ep - ep2) - (p0 - p1 - p2 + p12 + p21 - p121)) = 0 := by
      have t : ∀ A p : Int, (y - z) * (A * (ep - ep2) - p) = A * (y - z) * (ep - ep2) - (y - z) * p := fun A p => by grind
      rw [t, d2]; omega
    have := cancel hyz this
    omega
  have : (x - y) * ((x - z) * ((y - z) * de - (ep - ep2))) = 0 := by
    have t : (x - y) * ((x - z) * ((y - z) * de - (ep - ep2))) = (x - y) * (x - z) * (y - z) * de - (x - y) * (x - z) * (ep - ep2) := by grind
    rw [t, c1, c2]; omega
  have := cancel hxz (cancel hxy this)
  omega

end Go.Proofs.YtgebjjpcgakjgaaGreat

namespace Go.Proofs.YtgebjjpcgakjgaaGreat
set_option linter.all false
set_option maxRecDepth 100000
open Go.RowKit

/-! ### alike but for multiples of N -/
def Mg (N a b : Int) : Prop := ∃ m, a = b + N * m
theorem Mg.refl (N a : Int) : Mg N a a := ⟨0, by simp⟩
theorem Mg.symm {N a b : Int} (h : Mg N a b) : Mg N b a := by
  obtain ⟨m, rfl⟩ := h
  exact ⟨-m, by rw [Int.mul_neg]; omega⟩
theorem Mg.trans {N a b c : Int} (h : Mg N a b) (h' : Mg N b c) : Mg N a c := by
  obtain ⟨m, rfl⟩ := h
  obtain ⟨m', rfl⟩ := h'
  exact ⟨m' + m, by rw [Int.mul_add]; omega⟩
theorem Mg.add {N a b c e : Int} (h : Mg N a b) (h' : Mg N c e) : Mg N (a + c) (b + e) := by
  obtain ⟨m, rfl⟩ := h
  obtain ⟨m', rfl⟩ := h'
  exact ⟨m + m', by rw [Int.mul_add]; omega⟩
theorem Mg.mul {N a b c e : Int} (h : Mg N a b) (h' : Mg N c e) : Mg N (a * c) (b * e) := by
  obtain ⟨m, rfl⟩ := h
  obtain ⟨m', rfl⟩ := h'
  refine ⟨m * e + b * m' + N * m * m', ?_⟩
  grind
theorem Mg.neg {N a b : Int} (h : Mg N a b) : Mg N (-a) (-b) := by
  obtain ⟨m, rfl⟩ := h
  exact ⟨-m, by rw [Int.mul_neg]; omega⟩
theorem Mg.sub {N a b c e : Int} (h : Mg N a b) (h' : Mg N c e) : Mg N (a - c) (b - e) := by
  have := h.add h'.neg
  rw [Int.sub_eq_add_neg, Int.sub_eq_add_neg]
  exact this
theorem Mg.pow {N a b : Int} (h : Mg N a b) : ∀ n : Nat, Mg N (a ^ n) (b ^ n)
  | 0 => by rw [Int.pow_zero, Int.pow_zero]; exact Mg.refl _ _
  | n + 1 => by rw [Int.pow_succ, Int.pow_succ]; exact (Mg.pow h n).mul h
/-- a number that is a multiple of all great numbers is 0 -/
theorem Mg.zero {D : Int} (c : Int) (h : ∀ N, c < N → 0 < N → Mg N D 0) : D = 0 := by
  obtain ⟨K, h1, h2, h3, h4⟩ : ∃ K : Int, c < K ∧ 0 < K ∧ D < K ∧ -D < K := ⟨1 + (c.natAbs : Int) + (D.natAbs : Int), by omega, by omega, by omega, by omega⟩
  obtain ⟨m, hm⟩ := h K h1 h2
  rcases Int.lt_trichotomy m 0 with h0 | h0 | h0
  · have := Int.mul_le_mul_of_nonneg_left (show m ≤ -1 by omega) (show 0 ≤ K by omega)
    rw [Int.mul_neg, Int.mul_one] at this
    omega
  · rw [h0] at hm; simpa using hm
  · have := Int.mul_le_mul_of_nonneg_left (show 1 ≤ m by omega) (show 0 ≤ K by omega)
    rw [Int.mul_one] at this
    omega

theorem Ev_mg {N : Int} {g g' : List Int → Int} (h : ∀ e, Mg N (g e) (g' e)) : ∀ P : Pl, Mg N (Ev P g) (Ev P g')
  | [] => Mg.refl _ _
  | p :: l => ((Mg.refl N p.2).mul (h p.1)).add (Ev_mg h l)
theorem mono_mg {N : Int} {xs xs' : List Int} (h : ∀ i, Mg N (xs.getD i 0) (xs'.getD i 0)) (e : List Int) : Mg N (mono xs e) (mono xs' e) := by
  unfold mono
  have : ∀ n, Mg N (monoK xs e n) (monoK xs' e n) := fun n => by
    induction n with
    | zero => exact Mg.refl _ _
    | succ n ih => exact ih.mul ((h n).pow _)
  exact this 7
/-- two polynomials have values alike but for multiples of N -/
def PMg (N : Int) (P Q : Pl) : Prop := ∀ g, Mg N (Ev P g) (Ev Q g)
theorem PMg.dv {N : Int} {P Q : Pl} (h : PMg N P Q) (k : Nat) : PMg N (dvP k P) (dvP k Q) := fun g => by
  rw [Ev_dv, Ev_dv]; exact h _
theorem PMg.low {N : Int} {P Q : Pl} (h : PMg N P Q) : ∀ f xs, PMg N (lowP f xs P) (lowP f xs Q)
  | 0, _ => h
  | f + 1, xs => by
    rw [lowP, lowP]
    cases fasc xs with
    | none => exact h
    | some k => exact (PMg.low h f _).dv k
theorem PMg.top {N : Int} {ys ys' : List Int} (h : ∀ i, Mg N (ys.getD i 0) (ys'.getD i 0)) (n : Nat) : ∀ i, PMg N (topI n ys i) (topI n ys' i)
  | 0 => fun g => Mg.refl _ _
  | i + 1 => by
    rw [topI, topI]
    have : ∀ m, PMg N (topJ i ys m (topI n ys i)) (topJ i ys' m (topI n ys' i)) := fun m => by
      induction m with
      | zero => exact PMg.top h n i
      | succ m ih =>
        intro g
        rw [topJ, topJ, Ev_append, Ev_append, Ev_rs, Ev_rs, Ev_scl, Ev_scl, Ev_mul, Ev_mul]
        exact (ih _).add ((h m).neg.mul (ih g))
    exact this _

/-! ### exponents are not below 0 -/
def Pos7 (P : Pl) : Prop := ∀ p ∈ P, p.1.length = 7 ∧ ∀ x ∈ p.1, (0 : Int) ≤ x
theorem list7 {e : List Int} (h : e.length = 7) : ∃ a0 a1 a2 a3 a4 a5 a6, e = [a0, a1, a2, a3, a4, a5, a6] := by
  match e, h with
  | [a0, a1, a2, a3, a4, a5, a6], _ => exact ⟨a0, a1, a2, a3, a4, a5, a6, rfl⟩

theorem tele (X Y : Int) (b : Nat) : ∀ (m a : Nat), m ≤ a →
    (X - Y) * ((List.range m).foldl (fun s j => s + X ^ (a - 1 - j) * Y ^ (b + j)) 0) = X ^ a * Y ^ b - X ^ (a - m) * Y ^ (b + m)
  | 0, a, _ => by simp
  | m + 1, a, h => by
    rw [List.range_succ, List.foldl_append, List.foldl_cons, List.foldl_nil, Int.mul_add, tele X Y b m a (by omega)]
    have e1 : a - m = (a - 1 - m) + 1 := by omega
    have e2 : a - (m + 1) = a - 1 - m := by omega
    have e3 : b + (m + 1) = (b + m) + 1 := by omega
    rw [e1, e2, e3, Int.pow_succ X, Int.pow_succ Y]
    grind
theorem Ev_range (f : Nat → List Int) (c : Int) (g : List Int → Int) (n : Nat) : Ev ((List.range n).map fun j => (f j, c)) g = c * (List.range n).foldl (fun s j => s + g (f j)) 0 := by
  induction n with
  | zero => simp [Ev]
  | succ n ih => rw [List.range_succ, List.map_append, Ev_append, ih, List.foldl_append]; simp [Ev, Int.mul_add]
theorem fold_mul (R : Int) (f g : Nat → Int) (n : Nat) (h : ∀ j, j < n → f j = R * g j) : (List.range n).foldl (fun s j => s + f j) 0 = R * (List.range n).foldl (fun s j => s + g j) 0 := by
  induction n with
  | zero => simp
  | succ n ih =>
    rw [List.range_succ, List.foldl_append, List.foldl_append, List.foldl_cons, List.foldl_cons, List.foldl_nil, List.foldl_nil, ih (fun j hj => h j (by omega)), h n (by omega), Int.mul_add]
/-- the monomial with two places told apart -/
theorem mono_two {xs e : List Int} {k : Nat} (hk : k < 4) (he : e.length = 7) (hx : xs.length = 7) : ∃ R : Int, ∀ (s t X Y : Int),
    mono ((xs.set (k + 1) Y).set k X) ((e.set (k + 1) t).set k s) = R * (X ^ s.toNat * Y ^ t.toNat) := by
  obtain ⟨a0, a1, a2, a3, a4, a5, a6, rfl⟩ := list7 he
  obtain ⟨x0, x1, x2, x3, x4, x5, x6, rfl⟩ := list7 hx
  have : k = 0 ∨ k = 1 ∨ k = 2 ∨ k = 3 := by omega
  rcases this with rfl | rfl | rfl | rfl
  · refine ⟨x2 ^ a2.toNat * x3 ^ a3.toNat * x4 ^ a4.toNat * x5 ^ a5.toNat * x6 ^ a6.toNat, fun s t X Y => ?_⟩
    simp [mono, monoK]; ac_rfl
  · refine ⟨x0 ^ a0.toNat * x3 ^ a3.toNat * x4 ^ a4.toNat * x5 ^ a5.toNat * x6 ^ a6.toNat, fun s t X Y => ?_⟩
    simp [mono, monoK]; ac_rfl
  · refine ⟨x0 ^ a0.toNat * x1 ^ a1.toNat * x4 ^ a4.toNat * x5 ^ a5.toNat * x6 ^ a6.toNat, fun s t X Y => ?_⟩
    simp [mono, monoK]; ac_rfl
  · refine ⟨x0 ^ a0.toNat * x1 ^ a1.toNat * x2 ^ a2.toNat * x5 ^ a5.toNat * x6 ^ a6.toNat, fun s t X Y => ?_⟩
    simp [mono, monoK]; ac_rfl
theorem set_two {xs : List Int} {k : Nat} (hk : k + 1 < xs.length) : (xs.set (k + 1) (xs.getD (k + 1) 0)).set k (xs.getD k 0) = xs := by
  have a : ∀ j, j < xs.length → xs.set j (xs.getD j 0) = xs := fun j hj => by rw [getD_lt hj, List.set_getElem_self]
  rw [a (k + 1) hk, a k (by omega)]
theorem swap_set {xs : List Int} {k : Nat} (hk : k + 1 < xs.length) : swapL xs k (k + 1) = (xs.set (k + 1) (xs.getD k 0)).set k (xs.getD (k + 1) 0) := by
  unfold swapL
  rw [List.set_comm _ _ (by omega)]

theorem dvE_val {xs e : List Int} {k : Nat} (hk : k < 4) (he : e.length = 7) (hp : ∀ x ∈ e, (0 : Int) ≤ x) (hx : xs.length = 7) :
    (xs.getD k 0 - xs.getD (k + 1) 0) * Ev (dvE k e) (mono xs) = mono xs e - mono (swapL xs k (k + 1)) e := by
  obtain ⟨R, hR⟩ := mono_two (xs := xs) hk he hx
  obtain ⟨a, ha⟩ : ∃ a : Nat, e.getD k 0 = (a : Int) := ⟨(e.getD k 0).toNat, by have := hp _ (getD_mem (show k < e.length by omega)); omega⟩
  obtain ⟨b, hb⟩ : ∃ b : Nat, e.getD (k + 1) 0 = (b : Int) := ⟨(e.getD (k + 1) 0).toNat, by have := hp _ (getD_mem (show k + 1 < e.length by omega)); omega⟩
  have e1 : mono xs e = R * (xs.getD k 0 ^ a * xs.getD (k + 1) 0 ^ b) := by
    have := hR a b (xs.getD k 0) (xs.getD (k + 1) 0)
    rw [set_two (by omega), ← ha, ← hb, set_two (by omega), ha, hb] at this
    simpa using this
  have e2 : mono (swapL xs k (k + 1)) e = R * (xs.getD (k + 1) 0 ^ a * xs.getD k 0 ^ b) := by
    have := hR a b (xs.getD (k + 1) 0) (xs.getD k 0)
    rw [← swap_set (by omega), ← ha, ← hb, set_two (by omega), ha, hb] at this
    simpa using this
  have e3 : ∀ s t : Int, mono xs (dvS k e s t) = R * (xs.getD k 0 ^ (s - 1 - t).toNat * xs.getD (k + 1) 0 ^ t.toNat) := fun s t => by
    have := hR (s - 1 - t) t (xs.getD k 0) (xs.getD (k + 1) 0)
    rw [set_two (by omega)] at this
    exact this
  rw [e1, e2]
  obtain ⟨X, hX⟩ : ∃ X, X = xs.getD k 0 := ⟨_, rfl⟩
  obtain ⟨Y, hY⟩ : ∃ Y, Y = xs.getD (k + 1) 0 := ⟨_, rfl⟩
  rw [← hX, ← hY] at e3 ⊢
  by_cases hab : e.getD k 0 < e.getD (k + 1) 0
  · rw [dvE_le hab, dvK, Ev_range, ha, hb]
    have hn : ((b : Int) - (a : Int)).toNat = b - a := by omega
    rw [hn, fold_mul R _ (fun j => Y ^ (a + j) * X ^ (b - 1 - j)) _ (fun j hj => by
      rw [e3]
      have h1 : ((a : Int) + (b : Int) - 1 - ((a : Int) + (j : Int))).toNat = b - 1 - j := by omega
      have h2 : ((a : Int) + (j : Int)).toNat = a + j := by omega
      rw [h1, h2, Int.mul_comm (X ^ _)])]
    have t := tele X Y a (b - a) b (by omega)
    have h3 : b - (b - a) = a := by omega
    have h4 : a + (b - a) = b := by omega
    rw [h3, h4] at t
    have h5 : ((List.range (b - a)).foldl (fun s j => s + Y ^ (a + j) * X ^ (b - 1 - j)) 0) = (List.range (b - a)).foldl (fun s j => s + X ^ (b - 1 - j) * Y ^ (a + j)) 0 := by
      congr 1; funext s j; rw [Int.mul_comm (Y ^ _)]
    rw [h5]
    obtain ⟨S, hS⟩ : ∃ S, S = (List.range (b - a)).foldl (fun s j => s + X ^ (b - 1 - j) * Y ^ (a + j)) 0 := ⟨_, rfl⟩
    rw [← hS] at t ⊢
    have : (X - Y) * (-1 * (R * S)) = -(R * ((X - Y) * S)) := by grind
    rw [this, t]
    grind
  · rw [dvE_ge hab, dvK, Ev_range, ha, hb]
    have hn : ((a : Int) - (b : Int)).toNat = a - b := by omega
    rw [hn, fold_mul R _ (fun j => X ^ (a - 1 - j) * Y ^ (b + j)) _ (fun j hj => by
      rw [e3]
      have h1 : ((b : Int) + (a : Int) - 1 - ((b : Int) + (j : Int))).toNat = a - 1 - j := by omega
      have h2 : ((b : Int) + (j : Int)).toNat = b + j := by omega
      rw [h1, h2])]
    have t := tele X Y b (a - b) a (by omega)
    have h3 : a - (a - b) = b := by omega
    have h4 : b + (a - b) = a := by omega
    rw [h3, h4] at t
    obtain ⟨S, hS⟩ : ∃ S, S = (List.range (a - b)).foldl (fun s j => s + X ^ (a - 1 - j) * Y ^ (b + j)) 0 := ⟨_, rfl⟩
    rw [← hS] at t ⊢
    have : (X - Y) * (1 * (R * S)) = R * ((X - Y) * S) := by grind
    rw [this, t]
    grind
theorem dv_val {xs : List Int} {k : Nat} (hk : k < 4) (hx : xs.length = 7) : ∀ {P : Pl}, Pos7 P →
    (xs.getD k 0 - xs.getD (k + 1) 0) * Ev (dvP k P) (mono xs) = Ev P (mono xs) - Ev P (mono (swapL xs k (k + 1)))
  | [], _ => by simp [dvP, Ev]
  | p :: l, h => by
    have ih := dv_val hk hx (P := l) fun q hq => h q (List.mem_cons_of_mem _ hq)
    have hp := h p List.mem_cons_self
    have := dvE_val hk hp.1 hp.2 hx
    rw [Ev_dv] at ih ⊢
    simp only [Ev] at ih ⊢
    rw [Int.mul_add, ih, Int.mul_left_comm, this]
    grind

/-! ### the polynomials have exponents that are not below 0 -/
theorem Pos7.append {P Q : Pl} (h : Pos7 P) (h' : Pos7 Q) : Pos7 (P ++ Q) := fun p hp => (List.mem_append.1 hp).elim (h p) (h' p)
theorem Pos7.scl {P : Pl} (h : Pos7 P) (k : Int) : Pos7 (sclP k P) := fun p hp => by
  obtain ⟨q, hq, rfl⟩ := List.mem_map.1 hp
  exact h q hq
theorem Pos7.rs {P : Pl} (h : Pos7 P) (i : Nat) : Pos7 (rsP i P) := fun p hp => by
  obtain ⟨q, hq, rfl⟩ := List.mem_map.1 hp
  refine ⟨by simpa [rsE] using (h q hq).1, fun x hx => ?_⟩
  rcases List.mem_or_eq_of_mem_set hx with hx | rfl
  · exact (h q hq).2 x hx
  · by_cases hi : i < q.1.length
    · have := (h q hq).2 _ (getD_mem hi); omega
    · rw [List.getD_eq_getElem?_getD, List.getElem?_eq_none (by omega)]; simp
theorem Pos7.dv {P : Pl} (h : Pos7 P) {k : Nat} (hk : k < 4) : Pos7 (dvP k P) := fun p hp => by
  obtain ⟨q, hq, hp⟩ := List.mem_flatMap.1 hp
  obtain ⟨r, hr, rfl⟩ := List.mem_map.1 hp
  have hq' := h q hq
  have h1 := hq'.2 _ (getD_mem (show k < q.1.length by omega))
  have h2 := hq'.2 _ (getD_mem (show k + 1 < q.1.length by omega))
  have key : ∀ s t : Int, 0 ≤ t → t ≤ s - 1 → (dvS k q.1 s t).length = 7 ∧ ∀ x ∈ dvS k q.1 s t, (0 : Int) ≤ x := fun s t ht hs => by
    refine ⟨by simpa [dvS] using hq'.1, fun x hx => ?_⟩
    rcases List.mem_or_eq_of_mem_set hx with hx | rfl
    · rcases List.mem_or_eq_of_mem_set hx with hx | rfl
      · exact hq'.2 x hx
      · exact ht
    · omega
  by_cases hab : q.1.getD k 0 < q.1.getD (k + 1) 0
  · rw [dvE_le hab] at hr
    obtain ⟨j, hj, rfl⟩ := List.mem_map.1 hr
    have := List.mem_range.1 hj
    exact key _ _ (by omega) (by omega)
  · rw [dvE_ge hab] at hr
    obtain ⟨j, hj, rfl⟩ := List.mem_map.1 hr
    have := List.mem_range.1 hj
    exact key _ _ (by omega) (by omega)
theorem fasc_lt {xs : List Int} {k : Nat} (h : fasc xs = some k) : k < xs.length - 1 ∧ xs.getD k 0 < xs.getD (k + 1) 0 ∧ ∀ j, j < k → ¬ xs.getD j 0 < xs.getD (j + 1) 0 := by
  unfold fasc at h
  rw [List.find?_range_eq_some] at h
  obtain ⟨h1, h2, h3⟩ := h
  exact ⟨by simpa using h2, by simpa using h1, fun j hj => by simpa using h3 j hj⟩
theorem Pos7.low {P : Pl} (h : Pos7 P) : ∀ f xs, xs.length ≤ 5 → Pos7 (lowP f xs P)
  | 0, _, _ => h
  | f + 1, xs, hx => by
    rw [lowP]
    cases hf : fasc xs with
    | none => exact h
    | some k => exact (Pos7.low h f _ (by rw [swapL_length]; exact hx)).dv (by have := (fasc_lt hf).1; omega)
theorem Pos7.top (n : Nat) (ys : List Int) : ∀ i, Pos7 (topI n ys i)
  | 0 => fun p hp => by
    obtain rfl := List.mem_singleton.1 hp
    exact ⟨rfl, by simp⟩
  | i + 1 => by
    rw [topI]
    have : ∀ m, Pos7 (topJ i ys m (topI n ys i)) := fun m => by
      induction m with
      | zero => exact Pos7.top n ys i
      | succ m ih => exact (ih.rs i).append (ih.scl _)
    exact this _
/-- the fuel does not matter -/
theorem low_more {P : Pl} : ∀ f g xs, lowOk f xs = true → f ≤ g → lowP g xs P = lowP f xs P
  | 0, 0, _, _, _ => rfl
  | 0, g + 1, xs, h, _ => by
    unfold lowOk at h
    have : fasc xs = none := by simpa using h
    show (match fasc xs with | none => P | some k => dvP k (lowP g (swapL xs k (k + 1)) P)) = P
    rw [this]
  | f + 1, 0, _, _, hg => by omega
  | f + 1, g + 1, xs, h, hg => by
    rw [lowP, lowP]
    unfold lowOk at h
    cases hf : fasc xs with
    | none => rfl
    | some k => rw [hf] at h; dsimp only at h ⊢; rw [low_more f g _ h (by omega)]

end Go.Proofs.YtgebjjpcgakjgaaGreat

namespace Go.Proofs.YtgebjjpcgakjgaaGreat
set_option linter.all false
set_option maxRecDepth 100000
open Go.RowKit

def lowB (v : List Int) : Bool := lowOk 10 v
def farB (v : List Int) : Bool := (List.range (v.length - 1)).all fun j => (List.range (v.length - 1)).all fun k =>
  !(ascB j v && ascB k v && decide (j + 2 ≤ k)) || (ascB k (sw j v) && ascB j (sw k v) && decide (sw k (sw j v) = sw j (sw k v)))
def nearB (v : List Int) : Bool := (List.range (v.length - 2)).all fun j =>
  !(ascB j v && ascB (j + 1) v) || (ascB (j + 1) (sw j v) && ascB j (sw (j + 1) (sw j v)) && ascB j (sw (j + 1) v) && ascB (j + 1) (sw j (sw (j + 1) v)) && decide (sw j (sw (j + 1) (sw j v)) = sw (j + 1) (sw j (sw (j + 1) v))))
set_option maxRecDepth 100000 in
theorem low_all : all5 lowB = true := by decide +kernel
set_option maxRecDepth 100000 in
theorem far_all : all5 farB = true := by decide +kernel
set_option maxRecDepth 100000 in
theorem near_all : all5 nearB = true := by decide +kernel
theorem P5.low {n : Nat} {v : List Int} (h : P5 n v) : lowOk 10 v = true := all5_at low_all h.ok (by have := h.len; have := h.le; omega)
theorem P5.far {n : Nat} {v : List Int} (h : P5 n v) {j k : Nat} (hk : k + 1 < n) (hjk : j + 2 ≤ k) (ha : ascB j v = true) (hb : ascB k v = true) :
    ascB k (Go.Proofs.YtgebjjpcgakjgaaGreat.sw j v) = true ∧ ascB j (Go.Proofs.YtgebjjpcgakjgaaGreat.sw k v) = true ∧ Go.Proofs.YtgebjjpcgakjgaaGreat.sw k (Go.Proofs.YtgebjjpcgakjgaaGreat.sw j v) = Go.Proofs.YtgebjjpcgakjgaaGreat.sw j (Go.Proofs.YtgebjjpcgakjgaaGreat.sw k v) := by
  have := all5_at far_all h.ok (by have := h.len; have := h.le; omega)
  simp only [farB, List.all_eq_true, List.mem_range] at this
  have := this j (by have := h.len; omega) k (by have := h.len; omega)
  rw [ha, hb] at this
  simpa [hjk, and_assoc] using this
theorem P5.near {n : Nat} {v : List Int} (h : P5 n v) {j : Nat} (hk : j + 2 < n) (ha : ascB j v = true) (hb : ascB (j + 1) v = true) :
    ascB (j + 1) (Go.Proofs.YtgebjjpcgakjgaaGreat.sw j v) = true ∧ ascB j (Go.Proofs.YtgebjjpcgakjgaaGreat.sw (j + 1) (Go.Proofs.YtgebjjpcgakjgaaGreat.sw j v)) = true ∧ ascB j (Go.Proofs.YtgebjjpcgakjgaaGreat.sw (j + 1) v) = true ∧ ascB (j + 1) (Go.Proofs.YtgebjjpcgakjgaaGreat.sw j (Go.Proofs.YtgebjjpcgakjgaaGreat.sw (j + 1) v)) = true ∧
      Go.Proofs.YtgebjjpcgakjgaaGreat.sw j (Go.Proofs.YtgebjjpcgakjgaaGreat.sw (j + 1) (Go.Proofs.YtgebjjpcgakjgaaGreat.sw j v)) = Go.Proofs.YtgebjjpcgakjgaaGreat.sw (j + 1) (Go.Proofs.YtgebjjpcgakjgaaGreat.sw j (Go.Proofs.YtgebjjpcgakjgaaGreat.sw (j + 1) v)) := by
  have := all5_at near_all h.ok (by have := h.len; have := h.le; omega)
  simp only [nearB, List.all_eq_true, List.mem_range] at this
  have := this j (by have := h.len; omega)
  rw [ha, hb] at this
  simpa [and_assoc] using this

end Go.Proofs.YtgebjjpcgakjgaaGreat

namespace Go.Proofs.YtgebjjpcgakjgaaGreat
set_option linter.all false
open Go.RowKit

set_option maxRecDepth 100000 in
set_option maxHeartbeats 1000000 in
theorem index_any (v : Value) (xs : List Int) (x : Int) (w : World) (h : Ints w v xs) :
    Calls Tryz.prog 55 #[v, .int .i64 x] w fun e w' => ∃ r : Int, e = .returned (.int .i64 r) ∧ (0 ≤ r ↔ x ∈ xs) ∧ -1 ≤ r ∧ Qt w w' := by
  obtain ⟨p, cap, rfl, ⟨hx1, hx⟩, hxc⟩ := h
  unfold maxLen at hx
  go_enter Tryz.func55, Tryz.ntmps55
  go_wp2
  go_loopg [8] xs.length (fun g i wr => ∃ k : Nat, k ≤ xs.length ∧ g = xs.length - k ∧ i = .int .i64 k ∧ Qt w wr ∧ Hid (x ∉ xs.take k))
  case atStart => exact ⟨0, Nat.zero_le _, rfl, rfl, Qt.refl _, by simp [Hid]⟩
  case round =>
    obtain ⟨k, hk, rfl, rfl, hq, hp⟩ := hrel
    by_cases hlt : k < xs.length
    · obtain ⟨b, off, rfl, hc⟩ := hxc (by omega)
      have c1 := hq.cell (hc k hlt)
      unfold iv at c1
      have hm := getD_mem hlt
      generalize hy : xs.getD k 0 = y at c1 hm
      have Hy := Lib.hid hy
      have Hm := Lib.hid hm
      clear hxc hc hy hm
      by_cases e : x = y
      · subst e
        go_wp2
        go_ret
        exact ⟨k, rfl, ⟨fun _ => Hm.out, fun _ => by omega⟩, by omega, hq⟩
      · have he : (x == y) = false := by simp [e]
        go_wp2
        go_roundg (xs.length - (k + 1))
        case measure => omega
        case rel =>
          refine ⟨k + 1, by omega, rfl, by go_num, hq, ?_⟩
          unfold Hid
          rw [List.take_add_one, List.getElem?_eq_getElem hlt]
          have h2 := Hy.out
          have h3 := hp.out
          simp only [Option.toList, List.mem_append, List.mem_singleton, not_or]
          exact ⟨h3, by rw [List.getD_eq_getElem?_getD, List.getElem?_eq_getElem hlt, Option.getD_some] at h2; rw [h2]; exact e⟩
    · go_wp2
      go_ret
      obtain rfl : k = xs.length := by omega
      have h3 := hp.out
      rw [List.take_length] at h3
      exact ⟨-1, rfl, ⟨fun h => absurd h (by decide), fun h => absurd h h3⟩, by omega, hq⟩

theorem contains_any (v : Value) (xs : List Int) (x : Int) (w : World) (h : Ints w v xs) :
    Calls Tryz.prog 35 #[v, .int .i64 x] w fun e w' => e = .returned (.bool (decide (x ∈ xs))) ∧ Qt w w' := by
  have Hh := Lib.hid h
  obtain ⟨p, cap, rfl, _⟩ := h
  go_enter Tryz.func35, Tryz.ntmps35
  go_wp2_with fail
  refine (index_any _ xs x _ Hh.out).mono ?_
  rintro e w1 ⟨r, rfl, hr, hr1, hq⟩
  have Hr := Lib.hid hr
  clear hr
  go_wp2_with fail
  go_ret
  exact ⟨ret_bool (by rw [decide_eq_decide]; exact Hr.out), hq⟩

end Go.Proofs.YtgebjjpcgakjgaaGreat

namespace Go.Proofs.YtgebjjpcgakjgaaGreat
set_option linter.all false
open Go.RowKit

set_option maxRecDepth 100000 in
set_option maxHeartbeats 2000000 in
theorem shiftsOk_any (N : Int) (v : Value) (y : List Int) (w : World) (h : Ints w v y) :
    Calls Tryz.prog 34 #[v, .int .i64 N] w fun e w' => e = .returned (.bool (shiftB N y)) ∧ w = w' := by
  obtain ⟨p, cap, rfl, ⟨hx1, hx⟩, hxc⟩ := h
  unfold maxLen at hx
  go_enter Tryz.func34, Tryz.ntmps34
  go_wp2_with fail
  go_loopg [6, 9] y.length (fun g s6 s9 wr => ∃ k : Nat, k ≤ y.length ∧ g = y.length - k ∧ s9 = .int .i64 k ∧ w = wr ∧ Hid (∀ j, j < k → -9 ≤ y.getD j 0 ∧ y.getD j 0 ≤ 9))
  case atStart => exact ⟨0, Nat.zero_le _, rfl, rfl, rfl, Lib.hid fun j hj => absurd hj (Nat.not_lt_zero _)⟩
  case round =>
    obtain ⟨k, hk, rfl, rfl, rfl, hp⟩ := hrel
    by_cases hlt : k < y.length
    · obtain ⟨b, off, rfl, hc⟩ := hxc (by omega)
      obtain ⟨x, hx'⟩ : ∃ x, x = y.getD k 0 := ⟨_, rfl⟩
      have c1 := hc k hlt
      unfold iv at c1
      rw [← hx'] at c1
      have Hx := Lib.hid hx'
      have hk1 : (k : Int) < (y.length : Int) := by omega
      clear hx' hc hxc
      have bad : ¬ (-9 ≤ x ∧ x ≤ 9) → shiftB N y = false := fun hr => by
        unfold shiftB
        rw [decide_eq_false (show ¬ ∀ x ∈ y, -9 ≤ x ∧ x ≤ 9 from fun e => hr (by rw [Hx.out]; exact e _ (getD_mem hlt))), Bool.and_false]
      have Bad := Lib.hid bad
      clear bad
      by_cases h1 : x < -9
      · go_wp2_with fail
        go_ret
        exact ⟨ret_bool (Bad.out (by omega)).symm, rfl⟩
      by_cases h2 : 9 < x
      · go_wp2_with fail
        go_ret
        exact ⟨ret_bool (Bad.out (by omega)).symm, rfl⟩
      go_wp2_with fail
      go_roundg (y.length - (k + 1))
      case measure => omega
      case rel =>
        refine ⟨k + 1, by omega, rfl, by go_num, rfl, Lib.hid fun j hj => ?_⟩
        by_cases e : j = k
        · subst e; rw [← Hx.out]; omega
        · exact hp.out j (by omega)
    · have hk1 : ¬ (k : Int) < (y.length : Int) := by omega
      have ha : decide (∀ x ∈ y, -9 ≤ x ∧ x ≤ 9) = true := decide_eq_true (all_of_getD fun j hj => hp.out j (by omega))
      have Ha := Lib.hid ha
      clear ha
      by_cases hN : (y.length : Int) = N
      · go_wp2_with fail
        go_ret
        exact ⟨ret_bool (by unfold shiftB; rw [Ha.out, decide_eq_true hN]; rfl), rfl⟩
      · go_wp2_with fail
        go_ret
        exact ⟨ret_bool (by unfold shiftB; simp [hN]), rfl⟩

theorem nm_shift {N : Int} {y : List Int} (h1 : 1 ≤ N) (h2 : N ≤ 5) : nmOk N y = shiftB N y := by
  unfold nmOk shiftB
  rw [decide_eq_true h1, decide_eq_true h2]; simp

set_option maxRecDepth 100000 in
set_option maxHeartbeats 2000000 in
theorem weightsOk_any (N : Int) (v : Value) (y : List Int) (w : World) (h : Ints w v y) :
    Calls Tryz.prog 19 #[.int .i64 N, v] w fun e w' => e = .returned (.bool (apOk N y)) ∧ Qt w w' := by
  have Hh := Lib.hid h
  obtain ⟨p, cap, rfl, ⟨hx1, hx⟩, hxc⟩ := h
  unfold maxLen at hx
  go_enter Tryz.func19, Tryz.ntmps19
  by_cases hN1 : N < 1
  · go_wp2_with fail
    go_ret
    exact ⟨ret_bool (ap_no1 (nm_no1 (by omega))).symm, Qt.refl _⟩
  by_cases hN4 : 4 < N
  · go_wp2_with fail
    go_ret
    exact ⟨ret_bool (ap_no2 (by omega)).symm, Qt.refl _⟩
  go_wp2_with fail
  refine (shiftsOk_any N _ y _ Hh.out).mono ?_
  rintro e w1 ⟨rfl, rfl⟩
  cases hs : shiftB N y with
  | false =>
    go_wp2_with fail
    go_ret
    exact ⟨ret_bool (ap_no1 (by rw [nm_shift (by omega) (by omega), hs])).symm, Qt.refl _⟩
  | true =>
  have hn : nmOk N y = true := by rw [nm_shift (by omega) (by omega), hs]
  obtain ⟨n, rfl, hn1, hn5, hyl, _⟩ := nm_facts hn
  have Hn := Lib.hid hn
  have Hyl := Lib.hid hyl
  have hle : n ≤ cap := by omega
  rw [hyl] at Hh hxc ⊢
  clear hn hyl hs
  go_wp2_with fail
  go_loopg [5, 6, 21] n (fun g s5 s6 s21 wr => ∃ k : Nat, k ≤ n ∧ g = n - k ∧ s21 = .int .i64 k ∧ Qt w wr ∧ Hid (∀ j, j < k → ¬ y.getD j 0 ∈ y.take j))
  case atStart => exact ⟨0, Nat.zero_le _, rfl, rfl, Qt.refl _, Lib.hid fun j hj => absurd hj (Nat.not_lt_zero _)⟩
  case round =>
    obtain ⟨k, hk, rfl, rfl, hq, hp⟩ := hrel
    by_cases hlt : k < n
    · obtain ⟨b, off, rfl, hc⟩ := hxc (by omega)
      obtain ⟨x, hx'⟩ : ∃ x, x = y.getD k 0 := ⟨_, rfl⟩
      have c1 := hq.cell (hc k hlt)
      unfold iv at c1
      rw [← hx'] at c1
      have Hx := Lib.hid hx'
      have hk1 : (k : Int) < (n : Int) := by omega
      have hk2 : (k : Int) ≤ (cap : Int) := by omega
      have HI := Lib.hid (show Ints wr (.slice (some ⟨b, off, none⟩) k cap) (y.take k) by
        have := Hh.out
        rw [← Hyl.out] at this
        exact (ints_takeP2 this (by rw [Hyl.out]; omega)).qt hq)
      obtain ⟨bb, hbb⟩ : ∃ bb, bb = decide (x ∈ y.take k) := ⟨_, rfl⟩
      have Hbb := Lib.hid hbb
      clear hx' hc hxc hbb
      go_wp2_with fail
      refine (contains_any _ (y.take k) x _ HI.out).mono ?_
      rintro e w2 ⟨rfl, hq2⟩
      rw [← Hbb.out]
      have Hq2 := Lib.hid (hq.trans hq2)
      clear hq2 hq
      cases bb with
      | true =>
        go_wp2_with fail
        go_ret
        exact ⟨ret_bool (ap_no3 (k := k) (by rw [Hyl.out]; exact hlt) (by rw [← Hx.out]; exact of_decide_eq_true Hbb.out.symm)).symm, Hq2.out⟩
      | false =>
        go_wp2_with fail
        go_roundg (n - (k + 1))
        case measure => omega
        case rel =>
          refine ⟨k + 1, by omega, rfl, by go_num, Hq2.out, Lib.hid fun j hj => ?_⟩
          by_cases e : j = k
          · subst e; rw [← Hx.out]; exact of_decide_eq_false Hbb.out.symm
          · exact hp.out j (by omega)
    · have hk1 : ¬ (k : Int) < (n : Int) := by omega
      go_wp2_with fail
      go_ret
      exact ⟨ret_bool (ap_yes Hn.out (by omega) fun j hj => hp.out j (by have := Hyl.out; omega)).symm, hq⟩

end Go.Proofs.YtgebjjpcgakjgaaGreat

namespace Go.Proofs.YtgebjjpcgakjgaaGreat
set_option linter.all false
set_option maxRecDepth 100000
open Go.RowKit Go.Maps Go.WideMaps

def stV (n k j : Nat) : Int := if j < k then ((n - 1 - j : Nat) : Int) else 0
theorem stE_eq (n : Nat) : stE n = [((n - 1 - 0 : Nat) : Int), ((n - 1 - 1 : Nat) : Int), ((n - 1 - 2 : Nat) : Int), ((n - 1 - 3 : Nat) : Int), ((n - 1 - 4 : Nat) : Int), ((n - 1 - 5 : Nat) : Int), ((n - 1 - 6 : Nat) : Int)] := rfl
theorem stV_end (n j : Nat) : stV n n j = ((n - 1 - j : Nat) : Int) := by
  unfold stV
  split
  · rfl
  · rw [show n - 1 - j = 0 by omega]; rfl
theorem K7_st (n : Nat) (h7 : n ≤ 7) : K7 6 (stE n) := ⟨rfl, fun x hx => by
  obtain ⟨j, hj, rfl⟩ := List.mem_map.1 hx
  omega⟩

set_option maxHeartbeats 4000000 in
theorem staircase_any (n : Nat) (w : World) (h1 : 1 ≤ n) (h7 : n ≤ 7) :
    Calls Tryz.prog 69 #[.int .i64 (n : Int)] w fun e w' => ∃ u, e = .returned u ∧ PolV w' u 6 1 (stP n) ∧ Below w.heap.size w w' := by
  have hmm := @run_makeMap Tryz.prog
  have hbd := buildE
  have h70 : (n : Int) ≤ 7 := by omega
  go_enter Tryz.func69, Tryz.ntmps69
  go_wp2_with fail
  go_loopg [7] n (fun g i wr => ∃ k : Nat, k ≤ n ∧ g = n - k ∧ i = .int .i64 (k : Int) ∧ Hid (Below w.heap.size w wr) ∧ wr.heap.size = w.heap.size + 1 ∧ wr.rowIs w.heap.size 75 7 (fun j => .int .i64 (stV n k j)))
  case atStart =>
    refine ⟨0, Nat.zero_le _, rfl, rfl, Lib.hid (below_alloc _ _), by simp, World.rowIs_alloc w _ _ _ fun i hi => ?_⟩
    simp at hi
    match i, hi with
    | 0, _ | 1, _ | 2, _ | 3, _ | 4, _ | 5, _ | 6, _ => rfl
  case round =>
    obtain ⟨k, hk, rfl, rfl, hb, hs, hrow⟩ := hrel
    by_cases hlt : k < n
    · have hki : (k : Int) < (n : Int) := by omega
      have hk7 : (k : Int) < 7 := by omega
      obtain ⟨z, c2⟩ : ∃ z, wr.cell? ⟨w.heap.size, k, none⟩ = some (.int .i64 z) := ⟨_, hrow.cell (by omega)⟩
      have c3 := hrow.frozen k
      have hv : ((n : Int) - 1 - (k : Int)) = ((n - 1 - k : Nat) : Int) := by omega
      have Hrow := Lib.hid hrow
      have Hv := Lib.hid hv
      clear hrow hv
      go_wp2_with fail
      go_roundg (n - (k + 1))
      case measure => omega
      case rel =>
        refine ⟨k + 1, by omega, rfl, by go_num, Lib.hid (hb.out.setCell (Nat.le_refl _) _), by simp [hs], (Hrow.out.set k _).congr fun j hj => ?_⟩
        unfold stV
        by_cases e : j = k
        · subst e
          rw [if_pos rfl, if_pos (by omega)]
          rw [← Hv.out]
        · rw [if_neg e]
          by_cases e2 : j < k
          · rw [if_pos e2, if_pos (by omega)]
          · rw [if_neg e2, if_neg (by omega)]
    · obtain rfl : k = n := by omega
      have Hrow := Lib.hid hrow
      have q0 := hrow.cell (i := 0) (by omega)
      have q1 := hrow.cell (i := 1) (by omega)
      have q2 := hrow.cell (i := 2) (by omega)
      have q3 := hrow.cell (i := 3) (by omega)
      have q4 := hrow.cell (i := 4) (by omega)
      have q5 := hrow.cell (i := 5) (by omega)
      have q6 := hrow.cell (i := 6) (by omega)
      rw [stV_end] at q0 q1 q2 q3 q4 q5 q6
      have hkey := keyOf_kv (K7_st k h7) (by omega)
      have hkd : kv (stE k) = .agg #[.int .i64 ((k - 1 - 0 : Nat) : Int), .int .i64 ((k - 1 - 1 : Nat) : Int), .int .i64 ((k - 1 - 2 : Nat) : Int), .int .i64 ((k - 1 - 3 : Nat) : Int), .int .i64 ((k - 1 - 4 : Nat) : Int), .int .i64 ((k - 1 - 5 : Nat) : Int), .int .i64 ((k - 1 - 6 : Nat) : Int)] := rfl
      rw [hkd] at hkey
      have hput := (PolM.empty 6).putNew (e := stE k) (c := 1) (by omega) (K7_st k h7) rfl (by decide)
      obtain ⟨k0, hk0⟩ : ∃ x, x = kl (stE k) := ⟨_, rfl⟩
      rw [← hk0] at hkey hput
      obtain ⟨x0, e0⟩ : ∃ x, x = ((k - 1 - 0 : Nat) : Int) := ⟨_, rfl⟩
      obtain ⟨x1, e1⟩ : ∃ x, x = ((k - 1 - 1 : Nat) : Int) := ⟨_, rfl⟩
      obtain ⟨x2, e2⟩ : ∃ x, x = ((k - 1 - 2 : Nat) : Int) := ⟨_, rfl⟩
      obtain ⟨x3, e3⟩ : ∃ x, x = ((k - 1 - 3 : Nat) : Int) := ⟨_, rfl⟩
      obtain ⟨x4, e4⟩ : ∃ x, x = ((k - 1 - 4 : Nat) : Int) := ⟨_, rfl⟩
      obtain ⟨x5, e5⟩ : ∃ x, x = ((k - 1 - 5 : Nat) : Int) := ⟨_, rfl⟩
      obtain ⟨x6, e6⟩ : ∃ x, x = ((k - 1 - 6 : Nat) : Int) := ⟨_, rfl⟩
      rw [← e0] at q0
      rw [← e1] at q1
      rw [← e2] at q2
      rw [← e3] at q3
      rw [← e4] at q4
      rw [← e5] at q5
      rw [← e6] at q6
      rw [← e0, ← e1, ← e2, ← e3, ← e4, ← e5, ← e6] at hkey
      have Hput := Lib.hid hput
      have Hkey := Lib.hid hkey
      have hown0 := World.ownsMap_made (H := Unit) wr Tryz.prog 75 (plainElem Tryz.prog 3)
      rw [hs] at hown0
      have Hown0 := Lib.hid hown0
      clear hkd hput hk0 e0 e1 e2 e3 e4 e5 e6 hrow hkey hown0
      go_wp2_with (first
        | (refine wpList_insert_own rfl _ _ _ rfl (w.heap.size + 1) 0 _ rfl Hown0.out (by omega) _ _ 1 rfl rfl Hkey.out (by decide) ?_; intro w0 hown1 hg0)
        | fail)
      go_ret
      refine ⟨_, rfl, ⟨_, _, rfl, hown1, Hput.out⟩, hb.out.trans (((below_alloc wr (.map #[] 0)).mono (by omega)).trans ?_)⟩
      exact ⟨hg0.os, hg0.tape, hg0.output, hg0.size, fun i hi => hg0.block i (by simp; omega) (fun e => by injection e; omega)⟩

theorem trimB_all : all5 (fun w => permOk (trimL w) && decide (1 ≤ (trimL w).length)) = true := by decide +kernel
theorem P5.trim {n : Nat} {w : List Int} (h : P5 n w) : P5 (trimL w).length (trimL w) := by
  have := all5_at trimB_all h.ok (by have := h.len; have := h.le; omega)
  simp only [Bool.and_eq_true] at this
  refine ⟨this.1, rfl, ?_⟩
  have h1 := h.len
  have h2 := h.le
  unfold trimL
  rw [List.length_take]
  omega

set_option maxHeartbeats 2000000 in
theorem schubert_any (n : Nat) (v : Value) (xs : List Int) (w : World) (h : Ints w v xs) (hp : P5 n xs) :
    Calls Tryz.prog 46 #[v] w fun e w' => ∃ u, e = .returned u ∧ PolV w' u 6 60466176 (schP xs) ∧ Below w.heap.size w w' := by
  have Hh := Lib.hid h
  have Hp := Lib.hid hp
  have Ht := Lib.hid hp.trim
  obtain ⟨p, cap, rfl, _, _⟩ := h
  obtain ⟨N, hN⟩ : ∃ N, N = (trimL xs).length := ⟨_, rfl⟩
  have h17 := of_decide_eq_true hp.trim.ok
  have hN5 := hp.trim.le
  rw [← hN] at h17 hN5
  have HN := Lib.hid hN
  have hN1 : 1 ≤ N := h17.1
  unfold schP
  rw [← hN]
  clear hp hN h17
  go_enter Tryz.func46, Tryz.ntmps46
  go_wp2_with fail
  refine (implTrim_yes _ xs _ Hh.out Hp.out.ok).mono ?_
  rintro e w1 ⟨u, rfl, ho, hb⟩
  obtain ⟨p1, k1, rfl, _, _⟩ := ho.shape
  have Ho := Lib.hid ho.ints
  rw [← HN.out] at Ho ⊢
  have Hb := Lib.hid hb
  clear ho hb
  go_wp2_with fail
  refine (staircase_any N _ hN1 (by omega)).mono ?_
  rintro e w2 ⟨u2, rfl, hpv, hb2⟩
  have Hpv := Lib.hid hpv
  have Hb2 := Lib.hid (Hb.out.trans (hb2.mono Hb.out.size))
  have Ho2 := Lib.hid (Ho.out.below hb2)
  obtain ⟨b2, D2, rfl, _, _⟩ := hpv
  clear hb2
  go_wp2_with fail
  refine (lowered_any 6 (stP N) (by omega) (by omega) 10 (trimL xs) _ _ 1 _ Ht.out.low (by rw [← HN.out]; exact hN5) Hpv.out (by decide) Ho2.out).mono ?_
  rintro e w3 ⟨u3, rfl, hpv3, hb3⟩
  have Hpv3 := Lib.hid hpv3
  have Hb3 := Lib.hid (Hb2.out.trans (hb3.mono Hb2.out.size))
  obtain ⟨b3, D3, rfl, _, _⟩ := hpv3
  clear hb3
  go_wp2_with fail
  go_ret
  exact ⟨_, rfl, Hpv3.out, Hb3.out⟩

/-- a list of terms that the call made, of this polynomial -/
def RetTs (w : World) (P : Pl) (v : Value) (w' : World) : Prop := ∃ ts, OwnTd w' w.heap.size w'.heap.size v ts ∧ TsOk ts ∧ (∀ g, Ev ts g = Ev P g) ∧ Below w.heap.size w w'

set_option maxHeartbeats 2000000 in
theorem SchubertPoly_any (n : Nat) (v : Value) (xs : List Int) (w : World) (h : Ints w v xs) (hp : P5 n xs) (h4 : n ≤ 4) :
    Calls Tryz.prog 22 #[v] w fun e w' => ∃ u, e = .returned (.tuple #[u, .bool true]) ∧ RetTs w (schP xs) u w' := by
  have Hh := Lib.hid h
  have Hp := Lib.hid hp
  have Hf := Lib.hid (sch_fit hp h4)
  obtain ⟨p, cap, rfl, _, _⟩ := h
  clear hp
  go_enter Tryz.func22, Tryz.ntmps22
  go_wp2_with fail
  refine (implIsPerm_any _ xs _ Hh.out).mono ?_
  rintro e w1 ⟨rfl, hb1⟩
  rw [Hp.out.ok]
  have Hb1 := Lib.hid hb1
  clear hb1
  go_wp2_with fail
  refine (schubert_any n _ xs _ (Hh.out.below Hb1.out) Hp.out).mono ?_
  rintro e w2 ⟨u2, rfl, hpv, hb2⟩
  have Hpv := Lib.hid hpv
  have Hb2 := Lib.hid (Hb1.out.trans (hb2.mono Hb1.out.size))
  obtain ⟨b2, D2, rfl, _, _⟩ := hpv
  clear hb2
  go_wp2_with fail
  refine (closed_any _ 6 _ _ _ _ Hpv.out (by omega) Hf.out.co (fun e _ he => Hf.out.sup e he) Hf.out.len).mono ?_
  rintro e w3 ⟨u3, ts, rfl, ho, hok, hev, hb3⟩
  have hs := Hb2.out.size
  have Hr := Lib.hid (show RetTs w (schP xs) u3 w3 from ⟨ts, ho.mono hs (Nat.le_refl _), hok, hev, Hb2.out.trans (hb3.mono hs)⟩)
  obtain ⟨p3, k3, rfl, _, _⟩ := ho.shape
  clear ho hok hev hb3
  go_wp2_with fail
  go_ret2
  exact ⟨_, rfl, Hr.out⟩

end Go.Proofs.YtgebjjpcgakjgaaGreat
