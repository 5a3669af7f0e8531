/-
  lowered: divided differences along a permutation.
  A map with one entry made by a composite literal; double.
  Divided differences of values: the braid of three. Plain.
  What divided differences do to the values of a polynomial, and what a change by multiples of a number does. Plain.
  Permutations of at most five: what is decided by looking at all of them. Plain.
  Neighbours of permutations of at most five, and the divided differences along any way. Plain.
  Divided differences along any way. Plain.
  The reference's code of a list, and its place among the permutations.
-/
import Derived.Test.YtajmoclnmphmgaaJ5
import Derived.Test.YtajmoclnmphmgaaJ6
import Derived.BigRegion
import Derived.Deep.RegionHeld
import Derived.Test.YtajmoclnmphmgaaJ1
namespace Go.Proofs.Ytajmoclnmphmgaa
set_option linter.all false
set_option maxRecDepth 100000
open Go.RowKit Go.Maps Go.WideMaps Go.WideElems Go.MapKept Go.ChangeMaps Go.ChangeShapes

/-- the first place with a smaller number than behind it -/
def fasc (xs : List Int) : Option Nat := (List.range (xs.length - 1)).find? fun (k : Nat) => decide (xs.getD k 0 < xs.getD (k + 1) 0)
def lowP : Nat → List Int → Pl → Pl
  | 0, _, P => P
  | f + 1, xs, P => match fasc xs with
    | none => P
    | some k => dvP k (lowP f (swapL xs k (k + 1)) P)
def lowOk : Nat → List Int → Bool
  | 0, xs => (fasc xs).isNone
  | f + 1, xs => match fasc xs with
    | none => true
    | some k => lowOk f (swapL xs k (k + 1))
theorem fasc_some {xs : List Int} {k : Nat} (hk : k < xs.length - 1) (h : xs.getD k 0 < xs.getD (k + 1) 0) (h0 : ∀ j, j < k → ¬ xs.getD j 0 < xs.getD (j + 1) 0) : fasc xs = some k := by
  unfold fasc
  rw [List.find?_range_eq_some]
  refine ⟨by simpa using h, by simpa using hk, fun j hj => by simpa using h0 j hj⟩
theorem fasc_none {xs : List Int} (h0 : ∀ j, j < xs.length - 1 → ¬ xs.getD j 0 < xs.getD (j + 1) 0) : fasc xs = none := by
  unfold fasc
  rw [List.find?_eq_none]
  intro j hj
  simpa using h0 j (List.mem_range.1 hj)

set_option maxRecDepth 100000 in
set_option maxHeartbeats 4000000 in
theorem lowered_any (d : Nat) (P : Pl) (hd : d < 1000000) (hd1 : 1 ≤ d) : ∀ (f : Nat) (xs : List Int) (u vw : Value) (nf : Nat) (w : World), lowOk f xs = true → xs.length ≤ 5 → PolV w u d nf P → nf * d ^ f < 1000000000000000 → Ints w vw xs →
    Calls Try.prog 79 #[vw, u, .func (.func 80) #[] #[]] w fun e w' => ∃ u', e = .returned u' ∧ PolV w' u' d (nf * d ^ f) (lowP f xs P) ∧ Below w.heap.size w w' := by
  intro f
  induction f using Nat.strongRecOn with
  | _ f ih =>
    intro xs u vw nf w hok hl hp hn hw
    have Hp := Lib.hid hp
    have Hw := Lib.hid hw
    have hge0 : nf ≤ nf * d ^ f := Nat.le_mul_of_pos_right _ (Nat.pow_pos hd1)
    have hasc : ∀ k, fasc xs = some k → ∃ f', f = f' + 1 ∧ lowOk f' (swapL xs k (k + 1)) = true ∧ lowP f xs P = dvP k (lowP f' (swapL xs k (k + 1)) P) := fun k hk => by
      cases f with
      | zero => unfold lowOk at hok; rw [hk] at hok; cases hok
      | succ f' => exact ⟨f', rfl, by unfold lowOk at hok; rw [hk] at hok; exact hok, by rw [lowP, hk]⟩
    have hnone : fasc xs = none → lowP f xs P = P := fun hk => by
      cases f with
      | zero => rfl
      | succ f' => rw [lowP, hk]
    have Hasc := Lib.hid hasc
    have Hnone := Lib.hid hnone
    have Ih := Lib.hid ih
    have Hn := Lib.hid hn
    have Hge := Lib.hid hge0
    obtain ⟨T, hT⟩ : ∃ T, T = nf * d ^ f := ⟨_, rfl⟩
    have HT := Lib.hid hT
    rw [← hT]
    obtain ⟨pw, cw, rfl, ⟨hw1, hw2⟩, hwc⟩ := hw
    obtain ⟨bf, Df, rfl, hf1, hf2⟩ := hp
    unfold maxLen at hw2
    have Hwc := Lib.hid hwc
    obtain ⟨R, hR⟩ : ∃ R, R = lowP f xs P := ⟨_, rfl⟩
    have HR := Lib.hid hR
    rw [← hR]
    clear hwc hf1 hf2 hok ih hT hasc hnone hn hge0 hR
    go_enter Try.func79, Try.ntmps79
    go_wp2_with fail
    go_loopg [7, 11] xs.length (fun g s7 s11 wr => ∃ k : Nat, k ≤ xs.length ∧ g = xs.length - k ∧ s11 = .int .i64 (k : Int) ∧ Qt w wr ∧ Hid (∀ j, j < k → ¬ xs.getD j 0 < xs.getD (j + 1) 0))
    case atStart => exact ⟨0, by omega, rfl, rfl, Qt.refl _, Lib.hid fun j hj => absurd hj (Nat.not_lt_zero _)⟩
    case round =>
      obtain ⟨k, hk, rfl, rfl, hq, hpre⟩ := hrel
      obtain ⟨wx, rfl⟩ : ∃ x : World, x = wr := ⟨_, rfl⟩
      by_cases hkl : k + 1 < xs.length
      · have hki : (k : Int) < (xs.length : Int) - 1 := by omega
        obtain ⟨bw, ow, rfl, hc⟩ := Hwc.out (by omega)
        have c1 := hq.cell (hc k (by omega))
        have c2 := hq.cell (hc (k + 1) hkl)
        unfold iv at c1 c2
        obtain ⟨x, hx⟩ : ∃ x, x = xs.getD k 0 := ⟨_, rfl⟩
        obtain ⟨y, hy⟩ : ∃ y, y = xs.getD (k + 1) 0 := ⟨_, rfl⟩
        rw [← hx] at c1
        rw [← hy] at c2
        have Hx := Lib.hid hx
        have Hy := Lib.hid hy
        have HQ := Lib.hid hq
        have hk1 : (k : Int) < (xs.length : Int) := by omega
        have hk2 : (k : Int) + 1 < (xs.length : Int) := by omega
        clear hx hy hc hq
        by_cases hxy : x < y
        · go_wp2_with fail
          go_quiet (fail)
          have HQ1 := Lib.hid (HQ.out.drewN nq)
          go_wp2_with fail
          obtain ⟨f', hf', hok', hlow⟩ := Hasc.out k (fasc_some (by omega) (by rw [← Hx.out, ← Hy.out]; exact hxy) fun j hj => Int.not_lt.2 (by have := hpre.out j hj; omega))
          have Hlow := Lib.hid hlow
          have Hok' := Lib.hid hok'
          have Hf' := Lib.hid hf'
          clear hlow hok' hf'
          refine (exchanged_any _ xs k (k + 1) _ (Hw.out.qt HQ1.out) (by omega) hkl (by omega) (by omega)).mono ?_
          rintro e w1 ⟨ue, rfl, hoe, hbe⟩
          have Hoe := Lib.hid hoe.ints
          obtain ⟨pe, ke, rfl, _, _⟩ := hoe.shape
          have Hb1 := Lib.hid ((HQ1.out.below w.heap.size).trans (hbe.mono (Nat.le_of_eq HQ1.out.size.symm)))
          clear hoe hbe
          go_wp2_with fail
          have hT0 : nf * d ^ f' * d = T := by rw [HT.out, Hf'.out, Nat.pow_succ, Nat.mul_assoc]
          have hT1 : nf * d ^ f' ≤ T := by rw [← hT0]; exact Nat.le_mul_of_pos_right _ (by omega)
          have HT0 := Lib.hid hT0
          clear hT0
          refine (Ih.out f' (by have := Hf'.out; omega) (swapL xs k (k + 1)) _ _ nf _ Hok'.out (by rw [swapL_length]; exact hl) (Hp.out.below Hb1.out) (by have := Hn.out; have := HT.out; omega) Hoe.out).mono ?_
          rintro e w2 ⟨u2, rfl, hp2, hb2⟩
          have Hp2 := Lib.hid hp2
          obtain ⟨b2, D2, rfl, _, _⟩ := hp2
          have Hb2 := Lib.hid (Hb1.out.trans (hb2.mono Hb1.out.size))
          clear hb2
          go_wp2_with fail
          refine (divided_any _ k d (nf * d ^ f') _ _ Hp2.out (by omega) hd (by rw [HT0.out]; have := Hn.out; have := HT.out; omega)).mono ?_
          rintro e w3 ⟨u3, rfl, hp3, hb3⟩
          have Hp3 := Lib.hid hp3
          have Hb3 := Lib.hid (Hb2.out.trans (hb3.mono Hb2.out.size))
          obtain ⟨b3, D3, rfl, _, _⟩ := hp3
          clear hb3
          go_wp2_with fail
          go_ret
          refine ⟨_, rfl, ?_, Hb3.out⟩
          rw [HR.out, Hlow.out, ← HT0.out]
          exact Hp3.out
        · go_wp2_with fail
          go_quiet (fail)
          have HQ1 := Lib.hid (HQ.out.drewN nq)
          go_wp2_with fail
          go_roundg (xs.length - (k + 1))
          case measure => omega
          case rel =>
            refine ⟨k + 1, by omega, rfl, by go_num, HQ1.out, Lib.hid fun j hj => ?_⟩
            by_cases e : j = k
            · subst e; rw [← Hx.out, ← Hy.out]; omega
            · exact hpre.out j (by omega)
      · have hki : ¬ (k : Int) < (xs.length : Int) - 1 := by omega
        go_wp2_with fail
        go_ret
        refine ⟨_, rfl, ?_, hq.below _⟩
        rw [HR.out, Hnone.out (fasc_none fun j hj => Int.not_lt.2 (by have := hpre.out j (by omega); omega))]
        exact (Hp.out.below (hq.below _)).mono (Nat.le_refl _) (by rw [HT.out]; exact Hge.out)

end Go.Proofs.Ytajmoclnmphmgaa

namespace Go.Proofs.Ytajmoclnmphmgaa
set_option linter.all false
set_option maxRecDepth 100000
open Go.RowKit Go.Maps Go.WideMaps Go.WideElems Go.MapKept Go.ChangeMaps Go.ChangeShapes

theorem wpList_insert_own {w : World} {ops : Array Oper} {rest : List Oper} {o : Oper} {a : Act} {Q : Exit → Act → World → Prop}
    (hg : o.guard = none) (m x v : Operand) (hop : o.op = Op.insert 64 m x v) (b n : Nat) (D : DU)
    (hm : a.eval m = .map (some b)) (hown : OwnMp w b n D) (hn : n < 1000000000000000) (key : Value) (k0 : Lit) (c : Int) (hx : a.eval x = key) (hv : a.eval v = .int .i64 c) (hkey : keyOf Try.prog 81 key = some k0)
    (hc : (Lit.int .i64 c).wf = true)
    (hK : ∀ w', OwnMp w' b (n + 1) (D.put k0 (.lit (.int .i64 c))) → w.grownBy w' (some b) → wpList Try.prog ops Q rest (a.put o.dst undef) w') :
    wpList Try.prog ops Q (o :: rest) a w := by
  refine wpList_plain hg fun K' hK' => ?_
  obtain ⟨w', hrun, r1, r2⟩ := hown.update klaw und41 (by unfold maxLen; omega) hkey (plainElem_int undI hc)
  unfold Oper.wp
  simp [execOp, hop, hm, hx, hv, hrun, Result.andThen]
  exact hK' _ _ (hK w' r1 r2)

/-- the product of the differences, for the longest permutation -/
def topJ (i : Nat) (ys : List Int) : Nat → Pl → Pl
  | 0, T => T
  | m + 1, T => rsP i (topJ i ys m T) ++ sclP (-(ys.getD m 0)) (topJ i ys m T)
def topI (n : Nat) (ys : List Int) : Nat → Pl
  | 0 => [([0, 0, 0, 0, 0, 0, 0], 1)]
  | i + 1 => topJ i ys (n - 1 - i) (topI n ys i)
def dblP (xs ys : List Int) : Pl := lowP 10 xs (topI xs.length ys xs.length)

theorem buildE (w : World) : (Instr.build 81 #[]).run Try.prog w = .ok (.agg #[.int .i64 0, .int .i64 0, .int .i64 0, .int .i64 0, .int .i64 0, .int .i64 0, .int .i64 0]) w := by kernel_rfl

end Go.Proofs.Ytajmoclnmphmgaa

namespace Go.Proofs.Ytajmoclnmphmgaa
set_option linter.all false
set_option maxRecDepth 100000

theorem cancel {a b : Int} (ha : a ≠ 0) (h : a * b = 0) : b = 0 := (Int.mul_eq_zero.1 h).resolve_left ha
theorem step2 {a b c p q r s u v w : Int} (h1 : a * u = p) (h2 : b * v = q) (h3 : c * w = u - v) : a * b * c * w = b * p - a * q := by
  have : a * b * c * w = a * b * (c * w) := by grind
  rw [this, h3]
  have : a * b * (u - v) = b * (a * u) - a * (b * v) := by grind
  rw [this, h1, h2]
theorem braid (x y z p0 p1 p2 p12 p21 p121 al al2 al12 be be1 de ga ga1 ga2 ga21 ep ep2 : Int) (hxy : x - y ≠ 0) (hxz : x - z ≠ 0) (hyz : y - z ≠ 0)
  (h1 : (x - y) * al = p0 - p1) (h2 : (x - z) * al2 = p2 - p21) (h3 : (y - z) * al12 = p12 - p121)
  (h4 : (y - z) * be = al - al2) (h5 : (x - z) * be1 = al - al12) (h6 : (x - y) * de = be - be1)
  (g1 : (y - z) * ga = p0 - p2) (g2 : (x - z) * ga1 = p1 - p12) (g3 : (x - y) * ga21 = p21 - p121)
  (g4 : (x - y) * ep = ga - ga1) (g5 : (x - z) * ep2 = ga - ga21) : (y - z) * de = ep - ep2 := by
  have e1 := step2 h1 h2 h4 (r := 0) (s := 0)
  have e2 := step2 h1 h3 h5 (r := 0) (s := 0)
  have e3 := step2 g1 g2 g4 (r := 0) (s := 0)
  have e4 := step2 g1 g3 g5 (r := 0) (s := 0)
  clear h1 h2 h3 h4 h5 g1 g2 g3 g4 g5
  have d1 : (x - y) * (x - z) * (y - z) * ((x - y) * de) = (x - y) * (p0 - p1 - p2 + p12 + p21 - p121) := by
    rw [h6]
    have : (x - y) * (x - z) * (y - z) * (be - be1) = (x - y) * (x - z) * (y - z) * be - (x - y) * (y - z) * (x - z) * be1 := by grind
    rw [this, e1, e2]
    grind
  have d2 : (x - y) * (x - z) * (y - z) * (ep - ep2) = (y - z) * (p0 - p1 - p2 + p12 + p21 - p121) := by
    have : (x - y) * (x - z) * (y - z) * (ep - ep2) = (y - z) * (x - z) * (x - y) * ep - (y - z) * (x - y) * (x - z) * ep2 := by grind
    rw [this, e3, e4]
    grind
  clear e1 e2 e3 e4 h6
  have c1 : (x - y) * (x - z) * (y - z) * de = p0 - p1 - p2 + p12 + p21 - p121 := by
    have : (x - y) * ((x - y) * (x - z) * (y - z) * de - (p0 - p1 - p2 + p12 + p21 - p121)) = 0 := by
      have t : ∀ A p : Int, (x - y) * (A * de - p) = A * ((x - y) * de) - (x - y) * p := fun A p => by grind
      rw [t, d1]; omega
    have := cancel hxy this
    omega
  have c2 : (x - y) * (x - z) * (ep - ep2) = p0 - p1 - p2 + p12 + p21 - p121 := by
    have : (y - z) * ((x - y) * (x - z) * (ep - ep2) - (p0 - p1 - p2 + p12 + p21 - p121)) = 0 := by
      have t : ∀ A p : Int, (y - z) * (A * (ep - ep2) - p) = A * (y - z) * (ep - ep2) - (y - z) * p := fun A p => by grind
      rw [t, d2]; omega
    have := cancel hyz this
    omega
  have : (x - y) * ((x - z) * ((y - z) * de - (ep - ep2))) = 0 := by
    have t : (x - y) * ((x - z) * ((y - z) * de - (ep - ep2))) = (x - y) * (x - z) * (y - z) * de - (x - y) * (x - z) * (ep - ep2) := by grind
    rw [t, c1, c2]; omega
  have := cancel hxz (cancel hxy this)
  omega

end Go.Proofs.Ytajmoclnmphmgaa

namespace Go.Proofs.Ytajmoclnmphmgaa
set_option linter.all false
set_option maxRecDepth 100000
open Go.RowKit

/-! ### alike but for multiples of N -/
def Mg (N a b : Int) : Prop := ∃ m, a = b + N * m
theorem Mg.refl (N a : Int) : Mg N a a := ⟨0, by simp⟩
theorem Mg.symm {N a b : Int} (h : Mg N a b) : Mg N b a := by
  obtain ⟨m, rfl⟩ := h
  exact ⟨-m, by rw [Int.mul_neg]; omega⟩
theorem Mg.trans {N a b c : Int} (h : Mg N a b) (h' : Mg N b c) : Mg N a c := by
  obtain ⟨m, rfl⟩ := h
  obtain ⟨m', rfl⟩ := h'
  exact ⟨m' + m, by rw [Int.mul_add]; omega⟩
theorem Mg.add {N a b c e : Int} (h : Mg N a b) (h' : Mg N c e) : Mg N (a + c) (b + e) := by
  obtain ⟨m, rfl⟩ := h
  obtain ⟨m', rfl⟩ := h'
  exact ⟨m + m', by rw [Int.mul_add]; omega⟩
theorem Mg.mul {N a b c e : Int} (h : Mg N a b) (h' : Mg N c e) : Mg N (a * c) (b * e) := by
  obtain ⟨m, rfl⟩ := h
  obtain ⟨m', rfl⟩ := h'
  refine ⟨m * e + b * m' + N * m * m', ?_⟩
  grind
theorem Mg.neg {N a b : Int} (h : Mg N a b) : Mg N (-a) (-b) := by
  obtain ⟨m, rfl⟩ := h
  exact ⟨-m, by rw [Int.mul_neg]; omega⟩
theorem Mg.sub {N a b c e : Int} (h : Mg N a b) (h' : Mg N c e) : Mg N (a - c) (b - e) := by
  have := h.add h'.neg
  rw [Int.sub_eq_add_neg, Int.sub_eq_add_neg]
  exact this
theorem Mg.pow {N a b : Int} (h : Mg N a b) : ∀ n : Nat, Mg N (a ^ n) (b ^ n)
  | 0 => by rw [Int.pow_zero, Int.pow_zero]; exact Mg.refl _ _
  | n + 1 => by rw [Int.pow_succ, Int.pow_succ]; exact (Mg.pow h n).mul h
/-- a number that is a multiple of all great numbers is 0 -/
theorem Mg.zero {D : Int} (c : Int) (h : ∀ N, c < N → 0 < N → Mg N D 0) : D = 0 := by
  obtain ⟨K, h1, h2, h3, h4⟩ : ∃ K : Int, c < K ∧ 0 < K ∧ D < K ∧ -D < K := ⟨1 + (c.natAbs : Int) + (D.natAbs : Int), by omega, by omega, by omega, by omega⟩
  obtain ⟨m, hm⟩ := h K h1 h2
  rcases Int.lt_trichotomy m 0 with h0 | h0 | h0
  · have := Int.mul_le_mul_of_nonneg_left (show m ≤ -1 by omega) (show 0 ≤ K by omega)
    rw [Int.mul_neg, Int.mul_one] at this
    omega
  · rw [h0] at hm; simpa using hm
  · have := Int.mul_le_mul_of_nonneg_left (show 1 ≤ m by omega) (show 0 ≤ K by omega)
    rw [Int.mul_one] at this
    omega

theorem Ev_mg {N : Int} {g g' : List Int → Int} (h : ∀ e, Mg N (g e) (g' e)) : ∀ P : Pl, Mg N (Ev P g) (Ev P g')
  | [] => Mg.refl _ _
  | p :: l => ((Mg.refl N p.2).mul (h p.1)).add (Ev_mg h l)
theorem mono_mg {N : Int} {xs xs' : List Int} (h : ∀ i, Mg N (xs.getD i 0) (xs'.getD i 0)) (e : List Int) : Mg N (mono xs e) (mono xs' e) := by
  unfold mono
  have : ∀ n, Mg N (monoK xs e n) (monoK xs' e n) := fun n => by
    induction n with
    | zero => exact Mg.refl _ _
    | succ n ih => exact ih.mul ((h n).pow _)
  exact this 7
/-- two polynomials have values alike but for multiples of N -/
def PMg (N : Int) (P Q : Pl) : Prop := ∀ g, Mg N (Ev P g) (Ev Q g)
theorem PMg.dv {N : Int} {P Q : Pl} (h : PMg N P Q) (k : Nat) : PMg N (dvP k P) (dvP k Q) := fun g => by
  rw [Ev_dv, Ev_dv]; exact h _
theorem PMg.low {N : Int} {P Q : Pl} (h : PMg N P Q) : ∀ f xs, PMg N (lowP f xs P) (lowP f xs Q)
  | 0, _ => h
  | f + 1, xs => by
    rw [lowP, lowP]
    cases fasc xs with
    | none => exact h
    | some k => exact (PMg.low h f _).dv k
theorem PMg.top {N : Int} {ys ys' : List Int} (h : ∀ i, Mg N (ys.getD i 0) (ys'.getD i 0)) (n : Nat) : ∀ i, PMg N (topI n ys i) (topI n ys' i)
  | 0 => fun g => Mg.refl _ _
  | i + 1 => by
    rw [topI, topI]
    have : ∀ m, PMg N (topJ i ys m (topI n ys i)) (topJ i ys' m (topI n ys' i)) := fun m => by
      induction m with
      | zero => exact PMg.top h n i
      | succ m ih =>
        intro g
        rw [topJ, topJ, Ev_append, Ev_append, Ev_rs, Ev_rs, Ev_scl, Ev_scl, Ev_mul, Ev_mul]
        exact (ih _).add ((h m).neg.mul (ih g))
    exact this _

/-! ### exponents are not below 0 -/
def Pos7 (P : Pl) : Prop := ∀ p ∈ P, p.1.length = 7 ∧ ∀ x ∈ p.1, (0 : Int) ≤ x
theorem list7 {e : List Int} (h : e.length = 7) : ∃ a0 a1 a2 a3 a4 a5 a6, e = [a0, a1, a2, a3, a4, a5, a6] := by
  match e, h with
  | [a0, a1, a2, a3, a4, a5, a6], _ => exact ⟨a0, a1, a2, a3, a4, a5, a6, rfl⟩

theorem tele (X Y : Int) (b : Nat) : ∀ (m a : Nat), m ≤ a →
    (X - Y) * ((List.range m).foldl (fun s j => s + X ^ (a - 1 - j) * Y ^ (b + j)) 0) = X ^ a * Y ^ b - X ^ (a - m) * Y ^ (b + m)
  | 0, a, _ => by simp
  | m + 1, a, h => by
    rw [List.range_succ, List.foldl_append, List.foldl_cons, List.foldl_nil, Int.mul_add, tele X Y b m a (by omega)]
    have e1 : a - m = (a - 1 - m) + 1 := by omega
    have e2 : a - (m + 1) = a - 1 - m := by omega
    have e3 : b + (m + 1) = (b + m) + 1 := by omega
    rw [e1, e2, e3, Int.pow_succ X, Int.pow_succ Y]
    grind
theorem Ev_range (f : Nat → List Int) (c : Int) (g : List Int → Int) (n : Nat) : Ev ((List.range n).map fun j => (f j, c)) g = c * (List.range n).foldl (fun s j => s + g (f j)) 0 := by
  induction n with
  | zero => simp [Ev]
  | succ n ih => rw [List.range_succ, List.map_append, Ev_append, ih, List.foldl_append]; simp [Ev, Int.mul_add]
theorem fold_mul (R : Int) (f g : Nat → Int) (n : Nat) (h : ∀ j, j < n → f j = R * g j) : (List.range n).foldl (fun s j => s + f j) 0 = R * (List.range n).foldl (fun s j => s + g j) 0 := by
  induction n with
  | zero => simp
  | succ n ih =>
    rw [List.range_succ, List.foldl_append, List.foldl_append, List.foldl_cons, List.foldl_cons, List.foldl_nil, List.foldl_nil, ih (fun j hj => h j (by omega)), h n (by omega), Int.mul_add]
/-- the monomial with two places told apart -/
theorem mono_two {xs e : List Int} {k : Nat} (hk : k < 4) (he : e.length = 7) (hx : xs.length = 7) : ∃ R : Int, ∀ (s t X Y : Int),
    mono ((xs.set (k + 1) Y).set k X) ((e.set (k + 1) t).set k s) = R * (X ^ s.toNat * Y ^ t.toNat) := by
  obtain ⟨a0, a1, a2, a3, a4, a5, a6, rfl⟩ := list7 he
  obtain ⟨x0, x1, x2, x3, x4, x5, x6, rfl⟩ := list7 hx
  have : k = 0 ∨ k = 1 ∨ k = 2 ∨ k = 3 := by omega
  rcases this with rfl | rfl | rfl | rfl
  · refine ⟨x2 ^ a2.toNat * x3 ^ a3.toNat * x4 ^ a4.toNat * x5 ^ a5.toNat * x6 ^ a6.toNat, fun s t X Y => ?_⟩
    simp [mono, monoK]; ac_rfl
  · refine ⟨x0 ^ a0.toNat * x3 ^ a3.toNat * x4 ^ a4.toNat * x5 ^ a5.toNat * x6 ^ a6.toNat, fun s t X Y => ?_⟩
    simp [mono, monoK]; ac_rfl
  · refine ⟨x0 ^ a0.toNat * x1 ^ a1.toNat * x4 ^ a4.toNat * x5 ^ a5.toNat * x6 ^ a6.toNat, fun s t X Y => ?_⟩
    simp [mono, monoK]; ac_rfl
  · refine ⟨x0 ^ a0.toNat * x1 ^ a1.toNat * x2 ^ a2.toNat * x5 ^ a5.toNat * x6 ^ a6.toNat, fun s t X Y => ?_⟩
    simp [mono, monoK]; ac_rfl
theorem set_two {xs : List Int} {k : Nat} (hk : k + 1 < xs.length) : (xs.set (k + 1) (xs.getD (k + 1) 0)).set k (xs.getD k 0) = xs := by
  have a : ∀ j, j < xs.length → xs.set j (xs.getD j 0) = xs := fun j hj => by rw [getD_lt hj, List.set_getElem_self]
  rw [a (k + 1) hk, a k (by omega)]
theorem swap_set {xs : List Int} {k : Nat} (hk : k + 1 < xs.length) : swapL xs k (k + 1) = (xs.set (k + 1) (xs.getD k 0)).set k (xs.getD (k + 1) 0) := by
  unfold swapL
  rw [List.set_comm _ _ (by omega)]

theorem dvE_val {xs e : List Int} {k : Nat} (hk : k < 4) (he : e.length = 7) (hp : ∀ x ∈ e, (0 : Int) ≤ x) (hx : xs.length = 7) :
    (xs.getD k 0 - xs.getD (k + 1) 0) * Ev (dvE k e) (mono xs) = mono xs e - mono (swapL xs k (k + 1)) e := by
  obtain ⟨R, hR⟩ := mono_two (xs := xs) hk he hx
  obtain ⟨a, ha⟩ : ∃ a : Nat, e.getD k 0 = (a : Int) := ⟨(e.getD k 0).toNat, by have := hp _ (getD_mem (show k < e.length by omega)); omega⟩
  obtain ⟨b, hb⟩ : ∃ b : Nat, e.getD (k + 1) 0 = (b : Int) := ⟨(e.getD (k + 1) 0).toNat, by have := hp _ (getD_mem (show k + 1 < e.length by omega)); omega⟩
  have e1 : mono xs e = R * (xs.getD k 0 ^ a * xs.getD (k + 1) 0 ^ b) := by
    have := hR a b (xs.getD k 0) (xs.getD (k + 1) 0)
    rw [set_two (by omega), ← ha, ← hb, set_two (by omega), ha, hb] at this
    simpa using this
  have e2 : mono (swapL xs k (k + 1)) e = R * (xs.getD (k + 1) 0 ^ a * xs.getD k 0 ^ b) := by
    have := hR a b (xs.getD (k + 1) 0) (xs.getD k 0)
    rw [← swap_set (by omega), ← ha, ← hb, set_two (by omega), ha, hb] at this
    simpa using this
  have e3 : ∀ s t : Int, mono xs (dvS k e s t) = R * (xs.getD k 0 ^ (s - 1 - t).toNat * xs.getD (k + 1) 0 ^ t.toNat) := fun s t => by
    have := hR (s - 1 - t) t (xs.getD k 0) (xs.getD (k + 1) 0)
    rw [set_two (by omega)] at this
    exact this
  rw [e1, e2]
  obtain ⟨X, hX⟩ : ∃ X, X = xs.getD k 0 := ⟨_, rfl⟩
  obtain ⟨Y, hY⟩ : ∃ Y, Y = xs.getD (k + 1) 0 := ⟨_, rfl⟩
  rw [← hX, ← hY] at e3 ⊢
  by_cases hab : e.getD k 0 < e.getD (k + 1) 0
  · rw [dvE_le hab, dvK, Ev_range, ha, hb]
    have hn : ((b : Int) - (a : Int)).toNat = b - a := by omega
    rw [hn, fold_mul R _ (fun j => Y ^ (a + j) * X ^ (b - 1 - j)) _ (fun j hj => by
      rw [e3]
      have h1 : ((a : Int) + (b : Int) - 1 - ((a : Int) + (j : Int))).toNat = b - 1 - j := by omega
      have h2 : ((a : Int) + (j : Int)).toNat = a + j := by omega
      rw [h1, h2, Int.mul_comm (X ^ _)])]
    have t := tele X Y a (b - a) b (by omega)
    have h3 : b - (b - a) = a := by omega
    have h4 : a + (b - a) = b := by omega
    rw [h3, h4] at t
    have h5 : ((List.range (b - a)).foldl (fun s j => s + Y ^ (a + j) * X ^ (b - 1 - j)) 0) = (List.range (b - a)).foldl (fun s j => s + X ^ (b - 1 - j) * Y ^ (a + j)) 0 := by
      congr 1; funext s j; rw [Int.mul_comm (Y ^ _)]
    rw [h5]
    obtain ⟨S, hS⟩ : ∃ S, S = (List.range (b - a)).foldl (fun s j => s + X ^ (b - 1 - j) * Y ^ (a + j)) 0 := ⟨_, rfl⟩
    rw [← hS] at t ⊢
    have : (X - Y) * (-1 * (R * S)) = -(R * ((X - Y) * S)) := by grind
    rw [this, t]
    grind
  · rw [dvE_ge hab, dvK, Ev_range, ha, hb]
    have hn : ((a : Int) - (b : Int)).toNat = a - b := by omega
    rw [hn, fold_mul R _ (fun j => X ^ (a - 1 - j) * Y ^ (b + j)) _ (fun j hj => by
      rw [e3]
      have h1 : ((b : Int) + (a : Int) - 1 - ((b : Int) + (j : Int))).toNat = a - 1 - j := by omega
      have h2 : ((b : Int) + (j : Int)).toNat = b + j := by omega
      rw [h1, h2])]
    have t := tele X Y b (a - b) a (by omega)
    have h3 : a - (a - b) = b := by omega
    have h4 : b + (a - b) = a := by omega
    rw [h3, h4] at t
    obtain ⟨S, hS⟩ : ∃ S, S = (List.range (a - b)).foldl (fun s j => s + X ^ (a - 1 - j) * Y ^ (b + j)) 0 := ⟨_, rfl⟩
    rw [← hS] at t ⊢
    have : (X - Y) * (1 * (R * S)) = R * ((X - Y) * S) := by grind
    rw [this, t]
    grind
theorem dv_val {xs : List Int} {k : Nat} (hk : k < 4) (hx : xs.length = 7) : ∀ {P : Pl}, Pos7 P →
    (xs.getD k 0 - xs.getD (k + 1) 0) * Ev (dvP k P) (mono xs) = Ev P (mono xs) - Ev P (mono (swapL xs k (k + 1)))
  | [], _ => by simp [dvP, Ev]
  | p :: l, h => by
    have ih := dv_val hk hx (P := l) fun q hq => h q (List.mem_cons_of_mem _ hq)
    have hp := h p List.mem_cons_self
    have := dvE_val hk hp.1 hp.2 hx
    rw [Ev_dv] at ih ⊢
    simp only [Ev] at ih ⊢
    rw [Int.mul_add, ih, Int.mul_left_comm, this]
    grind

/-! ### the polynomials have exponents that are not below 0 -/
theorem Pos7.append {P Q : Pl} (h : Pos7 P) (h' : Pos7 Q) : Pos7 (P ++ Q) := fun p hp => (List.mem_append.1 hp).elim (h p) (h' p)
theorem Pos7.scl {P : Pl} (h : Pos7 P) (k : Int) : Pos7 (sclP k P) := fun p hp => by
  obtain ⟨q, hq, rfl⟩ := List.mem_map.1 hp
  exact h q hq
theorem Pos7.rs {P : Pl} (h : Pos7 P) (i : Nat) : Pos7 (rsP i P) := fun p hp => by
  obtain ⟨q, hq, rfl⟩ := List.mem_map.1 hp
  refine ⟨by simpa [rsE] using (h q hq).1, fun x hx => ?_⟩
  rcases List.mem_or_eq_of_mem_set hx with hx | rfl
  · exact (h q hq).2 x hx
  · by_cases hi : i < q.1.length
    · have := (h q hq).2 _ (getD_mem hi); omega
    · rw [List.getD_eq_getElem?_getD, List.getElem?_eq_none (by omega)]; simp
theorem Pos7.dv {P : Pl} (h : Pos7 P) {k : Nat} (hk : k < 4) : Pos7 (dvP k P) := fun p hp => by
  obtain ⟨q, hq, hp⟩ := List.mem_flatMap.1 hp
  obtain ⟨r, hr, rfl⟩ := List.mem_map.1 hp
  have hq' := h q hq
  have h1 := hq'.2 _ (getD_mem (show k < q.1.length by omega))
  have h2 := hq'.2 _ (getD_mem (show k + 1 < q.1.length by omega))
  have key : ∀ s t : Int, 0 ≤ t → t ≤ s - 1 → (dvS k q.1 s t).length = 7 ∧ ∀ x ∈ dvS k q.1 s t, (0 : Int) ≤ x := fun s t ht hs => by
    refine ⟨by simpa [dvS] using hq'.1, fun x hx => ?_⟩
    rcases List.mem_or_eq_of_mem_set hx with hx | rfl
    · rcases List.mem_or_eq_of_mem_set hx with hx | rfl
      · exact hq'.2 x hx
      · exact ht
    · omega
  by_cases hab : q.1.getD k 0 < q.1.getD (k + 1) 0
  · rw [dvE_le hab] at hr
    obtain ⟨j, hj, rfl⟩ := List.mem_map.1 hr
    have := List.mem_range.1 hj
    exact key _ _ (by omega) (by omega)
  · rw [dvE_ge hab] at hr
    obtain ⟨j, hj, rfl⟩ := List.mem_map.1 hr
    have := List.mem_range.1 hj
    exact key _ _ (by omega) (by omega)
theorem fasc_lt {xs : List Int} {k : Nat} (h : fasc xs = some k) : k < xs.length - 1 ∧ xs.getD k 0 < xs.getD (k + 1) 0 ∧ ∀ j, j < k → ¬ xs.getD j 0 < xs.getD (j + 1) 0 := by
  unfold fasc at h
  rw [List.find?_range_eq_some] at h
  obtain ⟨h1, h2, h3⟩ := h
  exact ⟨by simpa using h2, by simpa using h1, fun j hj => by simpa using h3 j hj⟩
theorem Pos7.low {P : Pl} (h : Pos7 P) : ∀ f xs, xs.length ≤ 5 → Pos7 (lowP f xs P)
  | 0, _, _ => h
  | f + 1, xs, hx => by
    rw [lowP]
    cases hf : fasc xs with
    | none => exact h
    | some k => exact (Pos7.low h f _ (by rw [swapL_length]; exact hx)).dv (by have := (fasc_lt hf).1; omega)
theorem Pos7.top (n : Nat) (ys : List Int) : ∀ i, Pos7 (topI n ys i)
  | 0 => fun p hp => by
    obtain rfl := List.mem_singleton.1 hp
    exact ⟨rfl, by simp⟩
  | i + 1 => by
    rw [topI]
    have : ∀ m, Pos7 (topJ i ys m (topI n ys i)) := fun m => by
      induction m with
      | zero => exact Pos7.top n ys i
      | succ m ih => exact (ih.rs i).append (ih.scl _)
    exact this _
/-- the fuel does not matter -/
theorem low_more {P : Pl} : ∀ f g xs, lowOk f xs = true → f ≤ g → lowP g xs P = lowP f xs P
  | 0, 0, _, _, _ => rfl
  | 0, g + 1, xs, h, _ => by
    unfold lowOk at h
    have : fasc xs = none := by simpa using h
    show (match fasc xs with | none => P | some k => dvP k (lowP g (swapL xs k (k + 1)) P)) = P
    rw [this]
  | f + 1, 0, _, _, hg => by omega
  | f + 1, g + 1, xs, h, hg => by
    rw [lowP, lowP]
    unfold lowOk at h
    cases hf : fasc xs with
    | none => rfl
    | some k => rw [hf] at h; dsimp only at h ⊢; rw [low_more f g _ h (by omega)]

end Go.Proofs.Ytajmoclnmphmgaa

namespace Go.Proofs.Ytajmoclnmphmgaa
set_option linter.all false
open Go.RowKit

/-! ### permutations: what is decided by looking at all of them -/
theorem toFin {n : Nat} {x : Int} (h : 0 ≤ x ∧ x < (n : Int)) : ∃ a : Fin n, x = ((a : Nat) : Int) := ⟨⟨x.toNat, by omega⟩, by simp; omega⟩
def memB (xs : List Int) : Bool := !permOk xs || (permsL xs.length).contains xs
set_option maxRecDepth 100000 in
theorem mem_1 : ∀ a : Fin 1, memB [((a : Nat) : Int)] = true := by decide +kernel
set_option maxRecDepth 100000 in
theorem mem_2 : ∀ a b : Fin 2, memB [((a : Nat) : Int), ((b : Nat) : Int)] = true := by decide +kernel
set_option maxRecDepth 100000 in
theorem mem_3 : ∀ a b c : Fin 3, memB [((a : Nat) : Int), ((b : Nat) : Int), ((c : Nat) : Int)] = true := by decide +kernel
set_option maxRecDepth 100000 in
theorem mem_4 : ∀ a b c d : Fin 4, memB [((a : Nat) : Int), ((b : Nat) : Int), ((c : Nat) : Int), ((d : Nat) : Int)] = true := by decide +kernel
set_option maxRecDepth 100000 in
theorem mem_5 : ∀ a b c d e : Fin 5, memB [((a : Nat) : Int), ((b : Nat) : Int), ((c : Nat) : Int), ((d : Nat) : Int), ((e : Nat) : Int)] = true := by decide +kernel
theorem perm_mem {xs : List Int} (h : permOk xs = true) (h5 : xs.length ≤ 5) : xs ∈ permsL xs.length := by
  have key : memB xs = true := by
    have hp := h
    simp only [permOk, decide_eq_true_eq] at hp
    obtain ⟨h1, h7, hr, _⟩ := hp
    match xs, h1, h5, hr with
    | [a], _, _, hr =>
      obtain ⟨a, rfl⟩ := toFin (n := 1) (hr a (by simp))
      exact mem_1 a
    | [a, b], _, _, hr =>
      obtain ⟨a, rfl⟩ := toFin (n := 2) (hr a (by simp))
      obtain ⟨b, rfl⟩ := toFin (n := 2) (hr b (by simp))
      exact mem_2 a b
    | [a, b, c], _, _, hr =>
      obtain ⟨a, rfl⟩ := toFin (n := 3) (hr a (by simp))
      obtain ⟨b, rfl⟩ := toFin (n := 3) (hr b (by simp))
      obtain ⟨c, rfl⟩ := toFin (n := 3) (hr c (by simp))
      exact mem_3 a b c
    | [a, b, c, d], _, _, hr =>
      obtain ⟨a, rfl⟩ := toFin (n := 4) (hr a (by simp))
      obtain ⟨b, rfl⟩ := toFin (n := 4) (hr b (by simp))
      obtain ⟨c, rfl⟩ := toFin (n := 4) (hr c (by simp))
      obtain ⟨d, rfl⟩ := toFin (n := 4) (hr d (by simp))
      exact mem_4 a b c d
    | [a, b, c, d, e], _, _, hr =>
      obtain ⟨a, rfl⟩ := toFin (n := 5) (hr a (by simp))
      obtain ⟨b, rfl⟩ := toFin (n := 5) (hr b (by simp))
      obtain ⟨c, rfl⟩ := toFin (n := 5) (hr c (by simp))
      obtain ⟨d, rfl⟩ := toFin (n := 5) (hr d (by simp))
      obtain ⟨e, rfl⟩ := toFin (n := 5) (hr e (by simp))
      exact mem_5 a b c d e
  unfold memB at key
  rw [h] at key
  simpa using key
/-- a check that all permutations of at most five pass -/
def all5 (B : List Int → Bool) : Bool := (List.range 6).all fun n => (permsL n).all fun v => !decide (1 ≤ n) || B v
theorem all5_at {B : List Int → Bool} (h : all5 B = true) {xs : List Int} (hp : permOk xs = true) (h5 : xs.length ≤ 5) : B xs = true := by
  unfold all5 at h
  rw [List.all_eq_true] at h
  have a := h xs.length (List.mem_range.2 (by omega))
  rw [List.all_eq_true] at a
  have b := a xs (perm_mem hp h5)
  have : 1 ≤ xs.length := by simp only [permOk, decide_eq_true_eq] at hp; exact hp.1
  simpa [this] using b

/-- two neighbours exchanged -/
def sw (k : Nat) (v : List Int) : List Int := swapL v k (k + 1)
def ascB (k : Nat) (v : List Int) : Bool := decide (v.getD k 0 < v.getD (k + 1) 0)
/-- the pairs in order -/
def upN (v : List Int) : Nat := ((List.range v.length).map fun j => ((List.range j).filter fun i => decide (v.getD i 0 < v.getD j 0)).length).sum
def ok2B (v : List Int) : Bool := (List.range (v.length - 1)).all fun k => permOk (sw k v) && (if ascB k v then decide (upN (sw k v) + 1 = upN v) && !ascB k (sw k v) else decide (upN (sw k v) = upN v + 1) && ascB k (sw k v))
set_option maxRecDepth 100000 in
theorem ok2_all : all5 ok2B = true := by decide +kernel
theorem sw_length (k : Nat) (v : List Int) : (sw k v).length = v.length := swapL_length _ _ _
structure P5 (n : Nat) (v : List Int) : Prop where
  ok : permOk v = true
  len : v.length = n
  le : n ≤ 5
theorem P5.sw {n : Nat} {v : List Int} (h : P5 n v) {k : Nat} (hk : k + 1 < n) : P5 n (sw k v) := by
  have := all5_at ok2_all h.ok (by have := h.len; have := h.le; omega)
  simp only [ok2B, Bool.and_eq_true, List.all_eq_true, List.mem_range] at this
  exact ⟨(this k (by have := h.len; omega)).1, by rw [sw_length]; exact h.len, h.le⟩
theorem P5.asc {n : Nat} {v : List Int} (h : P5 n v) {k : Nat} (hk : k + 1 < n) (ha : ascB k v = true) : upN (Go.Proofs.Ytajmoclnmphmgaa.sw k v) + 1 = upN v ∧ ascB k (Go.Proofs.Ytajmoclnmphmgaa.sw k v) = false := by
  have := all5_at ok2_all h.ok (by have := h.len; have := h.le; omega)
  simp only [ok2B, Bool.and_eq_true, List.all_eq_true, List.mem_range] at this
  have := (this k (by have := h.len; omega)).2
  rw [ha] at this
  simpa using this
theorem P5.desc {n : Nat} {v : List Int} (h : P5 n v) {k : Nat} (hk : k + 1 < n) (ha : ascB k v = false) : upN (Go.Proofs.Ytajmoclnmphmgaa.sw k v) = upN v + 1 ∧ ascB k (Go.Proofs.Ytajmoclnmphmgaa.sw k v) = true := by
  have := all5_at ok2_all h.ok (by have := h.len; have := h.le; omega)
  simp only [ok2B, Bool.and_eq_true, List.all_eq_true, List.mem_range] at this
  have := (this k (by have := h.len; omega)).2
  rw [ha] at this
  simpa using this

end Go.Proofs.Ytajmoclnmphmgaa

namespace Go.Proofs.Ytajmoclnmphmgaa
set_option linter.all false
set_option maxRecDepth 100000
open Go.RowKit

def lowB (v : List Int) : Bool := lowOk 10 v
def farB (v : List Int) : Bool := (List.range (v.length - 1)).all fun j => (List.range (v.length - 1)).all fun k =>
  !(ascB j v && ascB k v && decide (j + 2 ≤ k)) || (ascB k (sw j v) && ascB j (sw k v) && decide (sw k (sw j v) = sw j (sw k v)))
def nearB (v : List Int) : Bool := (List.range (v.length - 2)).all fun j =>
  !(ascB j v && ascB (j + 1) v) || (ascB (j + 1) (sw j v) && ascB j (sw (j + 1) (sw j v)) && ascB j (sw (j + 1) v) && ascB (j + 1) (sw j (sw (j + 1) v)) && decide (sw j (sw (j + 1) (sw j v)) = sw (j + 1) (sw j (sw (j + 1) v))))
set_option maxRecDepth 100000 in
theorem low_all : all5 lowB = true := by decide +kernel
set_option maxRecDepth 100000 in
theorem far_all : all5 farB = true := by decide +kernel
set_option maxRecDepth 100000 in
theorem near_all : all5 nearB = true := by decide +kernel
theorem P5.low {n : Nat} {v : List Int} (h : P5 n v) : lowOk 10 v = true := all5_at low_all h.ok (by have := h.len; have := h.le; omega)
theorem P5.far {n : Nat} {v : List Int} (h : P5 n v) {j k : Nat} (hk : k + 1 < n) (hjk : j + 2 ≤ k) (ha : ascB j v = true) (hb : ascB k v = true) :
    ascB k (Go.Proofs.Ytajmoclnmphmgaa.sw j v) = true ∧ ascB j (Go.Proofs.Ytajmoclnmphmgaa.sw k v) = true ∧ Go.Proofs.Ytajmoclnmphmgaa.sw k (Go.Proofs.Ytajmoclnmphmgaa.sw j v) = Go.Proofs.Ytajmoclnmphmgaa.sw j (Go.Proofs.Ytajmoclnmphmgaa.sw k v) := by
  have := all5_at far_all h.ok (by have := h.len; have := h.le; omega)
  simp only [farB, List.all_eq_true, List.mem_range] at this
  have := this j (by have := h.len; omega) k (by have := h.len; omega)
  rw [ha, hb] at this
  simpa [hjk, and_assoc] using this
theorem P5.near {n : Nat} {v : List Int} (h : P5 n v) {j : Nat} (hk : j + 2 < n) (ha : ascB j v = true) (hb : ascB (j + 1) v = true) :
    ascB (j + 1) (Go.Proofs.Ytajmoclnmphmgaa.sw j v) = true ∧ ascB j (Go.Proofs.Ytajmoclnmphmgaa.sw (j + 1) (Go.Proofs.Ytajmoclnmphmgaa.sw j v)) = true ∧ ascB j (Go.Proofs.Ytajmoclnmphmgaa.sw (j + 1) v) = true ∧ ascB (j + 1) (Go.Proofs.Ytajmoclnmphmgaa.sw j (Go.Proofs.Ytajmoclnmphmgaa.sw (j + 1) v)) = true ∧
      Go.Proofs.Ytajmoclnmphmgaa.sw j (Go.Proofs.Ytajmoclnmphmgaa.sw (j + 1) (Go.Proofs.Ytajmoclnmphmgaa.sw j v)) = Go.Proofs.Ytajmoclnmphmgaa.sw (j + 1) (Go.Proofs.Ytajmoclnmphmgaa.sw j (Go.Proofs.Ytajmoclnmphmgaa.sw (j + 1) v)) := by
  have := all5_at near_all h.ok (by have := h.len; have := h.le; omega)
  simp only [nearB, List.all_eq_true, List.mem_range] at this
  have := this j (by have := h.len; omega)
  rw [ha, hb] at this
  simpa [and_assoc] using this

end Go.Proofs.Ytajmoclnmphmgaa

namespace Go.Proofs.Ytajmoclnmphmgaa
set_option linter.all false
set_option maxRecDepth 100000
open Go.RowKit

/-! ### values -/
/-- the value of a permutation's polynomial -/
def EV (T : Pl) (v x : List Int) : Int := Ev (lowP 10 v T) (mono x)
def Dst (n : Nat) (x : List Int) : Prop := x.length = 7 ∧ ∀ i j, i < j → j < n → x.getD i 0 ≠ x.getD j 0
theorem sw_getD {x : List Int} {k t : Nat} (hk : k + 1 < x.length) : (sw k x).getD t 0 = if t = k + 1 then x.getD k 0 else if t = k then x.getD (k + 1) 0 else x.getD t 0 := swapL_getD (by omega) hk
theorem sw_at {x : List Int} {k : Nat} (hk : k + 1 < x.length) : (sw k x).getD k 0 = x.getD (k + 1) 0 := by rw [sw_getD hk, if_neg (by omega), if_pos rfl]
theorem sw_at1 {x : List Int} {k : Nat} (hk : k + 1 < x.length) : (sw k x).getD (k + 1) 0 = x.getD k 0 := by rw [sw_getD hk, if_pos rfl]
theorem sw_off {x : List Int} {k t : Nat} (hk : k + 1 < x.length) (h1 : t ≠ k) (h2 : t ≠ k + 1) : (sw k x).getD t 0 = x.getD t 0 := by rw [sw_getD hk, if_neg h2, if_neg h1]
theorem sw_sw {x : List Int} {k : Nat} (hk : k + 1 < x.length) : sw k (sw k x) = x := by
  refine getD_eq_list (by rw [sw_length, sw_length]) fun t _ => ?_
  rw [sw_getD (by rw [sw_length]; exact hk), sw_at hk, sw_at1 hk, sw_getD hk]
  by_cases h1 : t = k + 1
  · rw [if_pos h1, h1]
  · rw [if_neg h1, if_neg h1]
    by_cases h2 : t = k
    · rw [if_pos h2, h2]
    · rw [if_neg h2, if_neg h2]
theorem sw_far {x : List Int} {j k : Nat} (hk : k + 1 < x.length) (hjk : j + 2 ≤ k) : sw k (sw j x) = sw j (sw k x) := by
  have lj : j + 1 < x.length := by omega
  have lk : k + 1 < (sw j x).length := by rw [sw_length]; exact hk
  have lj2 : j + 1 < (sw k x).length := by rw [sw_length]; exact lj
  refine getD_eq_list (by simp only [sw_length]) fun t _ => ?_
  rw [sw_getD lk, sw_getD lj2, sw_getD lj, sw_getD lj, sw_getD (t := t) lj, sw_getD (t := j) hk, sw_getD (t := j + 1) hk, sw_getD (t := t) hk]
  repeat' split
  all_goals (first | rfl | omega)
theorem sw_near {x : List Int} {j : Nat} (hk : j + 2 < x.length) : sw j (sw (j + 1) (sw j x)) = sw (j + 1) (sw j (sw (j + 1) x)) := by
  have l0 : j + 1 < x.length := by omega
  have l1 : j + 1 + 1 < x.length := by omega
  have a1 : j + 1 + 1 < (sw j x).length := by rw [sw_length]; exact l1
  have b1 : j + 1 < (sw (j + 1) x).length := by rw [sw_length]; exact l0
  have a2 : j + 1 < (sw (j + 1) (sw j x)).length := by rw [sw_length, sw_length]; exact l0
  have b2 : j + 1 + 1 < (sw j (sw (j + 1) x)).length := by rw [sw_length, sw_length]; exact l1
  refine getD_eq_list (by simp only [sw_length]) fun t _ => ?_
  by_cases h0 : t = j
  · rw [h0, sw_at a2, sw_at a1, sw_off l0 (by omega) (by omega), sw_off b2 (by omega) (by omega), sw_at b1, sw_at l1]
  · by_cases h1 : t = j + 1
    · rw [h1, sw_at1 a2, sw_off a1 (by omega) (by omega), sw_at l0, sw_at b2, sw_off b1 (by omega) (by omega), sw_at1 l1]
    · by_cases h2 : t = j + 1 + 1
      · rw [h2, sw_off a2 (by omega) (by omega), sw_at1 a1, sw_at1 l0, sw_at1 b2, sw_at1 b1, sw_off l1 (by omega) (by omega)]
      · rw [sw_off a2 h0 h1, sw_off a1 h1 h2, sw_off l0 h0 h1, sw_off b2 h1 h2, sw_off b1 h0 h1, sw_off l1 h1 h2]
theorem Dst.sw {n : Nat} {x : List Int} (h : Dst n x) (hn : n ≤ 7) {k : Nat} (hk : k + 1 < n) : Dst n (sw k x) := by
  refine ⟨by rw [sw_length]; exact h.1, fun i j hij hj => ?_⟩
  have hl := h.1
  rw [sw_getD (by omega), sw_getD (by omega)]
  repeat' split
  all_goals first | (exact h.2 _ _ (by omega) (by omega)) | (exact fun e => h.2 _ _ (show _ < _ from by omega) (by omega) e.symm) | omega

theorem low_step {T : Pl} {n : Nat} {v : List Int} (h : P5 n v) {k : Nat} (hf : fasc v = some k) : lowP 10 v T = dvP k (lowP 10 (sw k v) T) := by
  have h0 := h.low
  rw [lowOk, hf] at h0
  rw [lowP, hf]
  dsimp only at h0 ⊢
  rw [← low_more 9 10 _ h0 (by omega)]
  rfl
theorem EV_first {T : Pl} (hT : Pos7 T) {n : Nat} {v : List Int} (h : P5 n v) {k : Nat} (hf : fasc v = some k) {x : List Int} (hx : x.length = 7) :
    (x.getD k 0 - x.getD (k + 1) 0) * EV T v x = EV T (sw k v) x - EV T (sw k v) (sw k x) := by
  unfold EV
  rw [low_step h hf]
  have hk := fasc_lt hf
  have hl := h.len
  have h5 := h.le
  exact dv_val (by omega) hx (hT.low 10 _ (by rw [sw_length]; omega))
/-- divided differences along any way, at different numbers -/
def WayAt (T : Pl) (n : Nat) (v : List Int) (k : Nat) (x : List Int) : Prop := (x.getD k 0 - x.getD (k + 1) 0) * EV T v x = EV T (sw k v) x - EV T (sw k v) (sw k x)
theorem WayAt.sym {T : Pl} {n : Nat} {v : List Int} {k : Nat} {x : List Int} (hk : k + 1 < x.length) (h : WayAt T n v k x) (h' : WayAt T n v k (sw k x)) : EV T v (sw k x) = EV T v x := by
  unfold WayAt at h h'
  rw [sw_sw hk, sw_at hk, sw_at1 hk] at h'
  by_cases e : x.getD k 0 = x.getD (k + 1) 0
  · have : sw k x = x := by
      refine getD_eq_list (sw_length _ _) fun t _ => ?_
      rw [sw_getD hk]
      split
      · rename_i h; rw [h, e]
      · split
        · rename_i h; rw [h, e]
        · rfl
    rw [this]
  · have : (x.getD k 0 - x.getD (k + 1) 0) * (EV T v x - EV T v (sw k x)) = 0 := by
      have t : ∀ a b p q : Int, (a - b) * (p - q) = (a - b) * p + (b - a) * q := fun a b p q => by grind
      rw [t, h, h']; omega
    have := cancel (by omega) this
    omega
theorem way_dst {T : Pl} (hT : Pos7 T) {n : Nat} : ∀ (m : Nat) (v : List Int), P5 n v → upN v = m → ∀ k, k + 1 < n → ascB k v = true → ∀ x, Dst n x → WayAt T n v k x := by
  intro m
  induction m using Nat.strongRecOn with
  | _ m ih =>
    intro v hv hm k hk ha x hx
    have h5 := hv.le
    have hxl := hx.1
    obtain ⟨j, hj⟩ : ∃ j, fasc v = some j := by
      cases hf : fasc v with
      | some j => exact ⟨j, rfl⟩
      | none =>
        exfalso
        have hl := hv.len
        unfold fasc at hf
        rw [List.find?_eq_none] at hf
        have := hf k (List.mem_range.2 (by omega))
        exact this ha
    have hjl := fasc_lt hj
    have hl := hv.len
    have hjn : j + 1 < n := by omega
    have haj : ascB j v = true := by unfold ascB; exact decide_eq_true hjl.2.1
    have hjk : j ≤ k := Nat.not_lt.1 fun hlt => hjl.2.2 k hlt (of_decide_eq_true ha)
    have sub : ∀ u, P5 n u → upN u < upN v → ∀ i, i + 1 < n → ascB i u = true → ∀ x, Dst n x → WayAt T n u i x := fun u hu hlt i hi hai x hx => ih (upN u) (by omega) u hu rfl i hi hai x hx
    have first : ∀ x : List Int, x.length = 7 → WayAt T n v j x := fun x hx => EV_first hT hv hj hx
    have uj := (hv.asc hjn haj).1
    have uk := (hv.asc hk ha).1
    rcases Nat.lt_or_eq_of_le hjk with hlt | rfl
    · rcases Nat.lt_or_eq_of_le (Nat.succ_le_of_lt hlt) with h2 | h2
      · -- far letters
        obtain ⟨f1, f2, f3⟩ := hv.far hk (by omega) haj ha
        have a1 := first x hx.1
        have b1 := sub _ (hv.sw hjn) (by omega) k hk f1 x hx
        have b2 := sub _ (hv.sw hjn) (by omega) k hk f1 _ (hx.sw (by omega) hjn)
        have c1 := sub _ (hv.sw hk) (by omega) j hjn f2 x hx
        have c2 := sub _ (hv.sw hk) (by omega) j hjn f2 _ (hx.sw (by omega) hk)
        unfold WayAt at a1 b1 b2 c1 c2 ⊢
        have q1 : (Go.Proofs.Ytajmoclnmphmgaa.sw j x).getD k 0 = x.getD k 0 := sw_off (by omega) (by omega) (by omega)
        have q2 : (Go.Proofs.Ytajmoclnmphmgaa.sw j x).getD (k + 1) 0 = x.getD (k + 1) 0 := sw_off (by omega) (by omega) (by omega)
        have q3 : (Go.Proofs.Ytajmoclnmphmgaa.sw k x).getD j 0 = x.getD j 0 := sw_off (by omega) (by omega) (by omega)
        have q4 : (Go.Proofs.Ytajmoclnmphmgaa.sw k x).getD (j + 1) 0 = x.getD (j + 1) 0 := sw_off (by omega) (by omega) (by omega)
        rw [q1, q2, f3, sw_far (x := x) (j := j) (k := k) (by omega) (by omega)] at b2
        rw [q3, q4] at c2
        rw [f3] at b1
        have hne := hx.2 j (j + 1) (by omega) hjn
        have key : (x.getD j 0 - x.getD (j + 1) 0) * ((x.getD k 0 - x.getD (k + 1) 0) * EV T v x - (EV T (Go.Proofs.Ytajmoclnmphmgaa.sw k v) x - EV T (Go.Proofs.Ytajmoclnmphmgaa.sw k v) (Go.Proofs.Ytajmoclnmphmgaa.sw k x))) = 0 := by
          have t : ∀ A B p q r : Int, A * (B * p - (q - r)) = B * (A * p) - (A * q - A * r) := fun A B p q r => by grind
          rw [t, a1, c1, c2]
          have t2 : ∀ B p q : Int, B * (p - q) = B * p - B * q := fun B p q => by grind
          rw [t2, b1, b2]
          omega
        have := cancel (by omega) key
        omega
      · -- neighbours
        obtain rfl : k = j + 1 := by omega
        obtain ⟨f1, f2, f3, f4, f5⟩ := hv.near (by omega) haj ha
        have vj := hv.sw hjn
        have vk := hv.sw hk
        have vjk := vj.sw hk
        have vkj := vk.sw hjn
        have u1 := (vj.asc hk f1).1
        have u2 := (vk.asc hjn f3).1
        have D0 := hx
        have D1 := hx.sw (by omega) hjn
        have D2 := hx.sw (by omega) hk
        have D12 := D1.sw (by omega) hk
        have D21 := D2.sw (by omega) hjn
        have l0 : j + 2 < x.length := by omega
        have lj : j + 1 < x.length := by omega
        have h1 := sub _ vjk (by omega) j hjn f2 x D0
        have h1s := sub _ vjk (by omega) j hjn f2 _ D1
        have h2 := sub _ vjk (by omega) j hjn f2 _ D2
        have h3 := sub _ vjk (by omega) j hjn f2 _ D12
        have h4 := sub _ vj (by omega) (j + 1) hk f1 x D0
        have h5' := sub _ vj (by omega) (j + 1) hk f1 _ D1
        have h6 := first x hx.1
        have g1 := sub _ vkj (by omega) (j + 1) hk f4 x D0
        have g1s := sub _ vkj (by omega) (j + 1) hk f4 _ D2
        have g2 := sub _ vkj (by omega) (j + 1) hk f4 _ D1
        have g3 := sub _ vkj (by omega) (j + 1) hk f4 _ D21
        have g4 := sub _ vk (by omega) j hjn f3 x D0
        have g5 := sub _ vk (by omega) j hjn f3 _ D2
        have s1 := h1.sym lj h1s
        have s2 := g1.sym l0 g1s
        unfold WayAt at h1 h2 h3 h4 h5' h6 g1 g2 g3 g4 g5 ⊢
        have n12 := hx.2 j (j + 1) (by omega) (by omega)
        have n13 := hx.2 j (j + 2) (by omega) (by omega)
        have n23 := hx.2 (j + 1) (j + 2) (by omega) (by omega)
        have p1a : (Go.Proofs.Ytajmoclnmphmgaa.sw j x).getD j 0 = x.getD (j + 1) 0 := sw_at lj
        have p1b : (Go.Proofs.Ytajmoclnmphmgaa.sw j x).getD (j + 1) 0 = x.getD j 0 := sw_at1 lj
        have p1c : (Go.Proofs.Ytajmoclnmphmgaa.sw j x).getD (j + 1 + 1) 0 = x.getD (j + 2) 0 := sw_off lj (by omega) (by omega)
        have p2a : (Go.Proofs.Ytajmoclnmphmgaa.sw (j + 1) x).getD j 0 = x.getD j 0 := sw_off l0 (by omega) (by omega)
        have p2b : (Go.Proofs.Ytajmoclnmphmgaa.sw (j + 1) x).getD (j + 1) 0 = x.getD (j + 2) 0 := sw_at l0
        have p2c : (Go.Proofs.Ytajmoclnmphmgaa.sw (j + 1) x).getD (j + 1 + 1) 0 = x.getD (j + 1) 0 := sw_at1 l0
        have p12a : (Go.Proofs.Ytajmoclnmphmgaa.sw (j + 1) (Go.Proofs.Ytajmoclnmphmgaa.sw j x)).getD j 0 = x.getD (j + 1) 0 := by rw [sw_off (by rw [sw_length]; omega) (by omega) (by omega), p1a]
        have p12b : (Go.Proofs.Ytajmoclnmphmgaa.sw (j + 1) (Go.Proofs.Ytajmoclnmphmgaa.sw j x)).getD (j + 1) 0 = x.getD (j + 2) 0 := by rw [sw_at (by rw [sw_length]; omega), p1c]
        have p21b : (Go.Proofs.Ytajmoclnmphmgaa.sw j (Go.Proofs.Ytajmoclnmphmgaa.sw (j + 1) x)).getD (j + 1) 0 = x.getD j 0 := by rw [sw_at1 (by rw [sw_length]; omega), p2a]
        have p21c : (Go.Proofs.Ytajmoclnmphmgaa.sw j (Go.Proofs.Ytajmoclnmphmgaa.sw (j + 1) x)).getD (j + 1 + 1) 0 = x.getD (j + 1) 0 := by rw [sw_off (by rw [sw_length]; omega) (by omega) (by omega), p2c]
        rw [p2a, p2b] at h2
        rw [p12a, p12b] at h3
        rw [p1b, p1c] at h5' g2
        rw [p2a, p2b] at g5
        rw [p21b, p21c] at g3
        rw [s1] at h5'
        rw [s2] at g5
        rw [← f5] at g1 g2 g3
        rw [sw_near l0] at h3
        show (x.getD (j + 1) 0 - x.getD (j + 2) 0) * _ = _
        exact braid _ _ _ _ _ _ _ _ _ _ _ _ _ _ _ _ _ 0 _ _ _ (by omega) (by omega) (by omega) h1 h2 h3 h4 h5' h6 g1 g2 g3 g4 g5
    · exact first x hx.1

end Go.Proofs.Ytajmoclnmphmgaa

namespace Go.Proofs.Ytajmoclnmphmgaa
set_option linter.all false
open Go.RowKit

theorem cdK_yes {xs : List Int} {i t : Nat} (h : xs.getD (i + 1 + t) 0 < xs.getD i 0) : cdK xs i (t + 1) = cdK xs i t + 1 := by
  unfold cdK
  rw [List.range_succ, List.filter_append]
  simp only [List.filter_cons, List.filter_nil, h, decide_true, if_true, List.length_append, List.length_singleton]
theorem cdK_no {xs : List Int} {i t : Nat} (h : ¬ xs.getD (i + 1 + t) 0 < xs.getD i 0) : cdK xs i (t + 1) = cdK xs i t := by
  unfold cdK
  rw [List.range_succ, List.filter_append]
  have e : List.filter (fun (s : Nat) => decide (xs.getD (i + 1 + s) 0 < xs.getD i 0)) [t] = [] := by
    rw [List.filter_cons, decide_eq_false h]; rfl
  rw [e, List.append_nil]
theorem cdK_le (xs : List Int) (i t : Nat) : cdK xs i t ≤ t := by
  unfold cdK
  exact Nat.le_trans (List.length_filter_le _ _) (by simp)
def cdF (xs : List Int) (i t j : Nat) : Nat := if j < i then cdA xs j else if j = i then cdK xs i t else 0
def cdL (xs : List Int) : List Int := (List.range xs.length).map fun i => (cdA xs i : Int)
theorem cdL_length (xs : List Int) : (cdL xs).length = xs.length := by simp [cdL]
theorem cdL_getD {xs : List Int} {i : Nat} (h : i < xs.length) : (cdL xs).getD i 0 = (cdA xs i : Int) := by simp [cdL, List.getD_eq_getElem?_getD, h]

set_option maxRecDepth 100000 in
set_option maxHeartbeats 4000000 in
theorem l1Code_any (v : Value) (xs : List Int) (w : World) (h : Ints w v xs) (hl : xs.length ≤ 10) :
    Calls Try.prog 84 #[v] w (RetI w (cdL xs)) := by
  obtain ⟨p, cap, rfl, ⟨hx1, hx⟩, hxc⟩ := h
  unfold maxLen at hx
  obtain ⟨n, hn⟩ : ∃ n, n = xs.length := ⟨_, rfl⟩
  have hmk := run_make_row' (P := Try.prog) 22 3 (.int .i64 0) 8 Try.underlying22 info_int rfl .i64 .i64 n (by omega) (by omega)
  have Hn := Lib.hid hn
  rw [← hn] at hx1 hxc hl ⊢
  have Hxc := Lib.hid hxc
  clear hn hxc
  go_enter Try.func84, Try.ntmps84
  go_wp2_with fail
  go_loopg [4, 5] n (fun g s4 s5 wr => ∃ i : Nat, i ≤ n ∧ g = n - i ∧ s4 = .int .i64 i ∧ Hid (Below w.heap.size w wr) ∧ Hid (wr.rowIs w.heap.size 3 n (fun j => .int .i64 (cdF xs i 0 j : Nat))))
  case atStart =>
    refine ⟨0, Nat.zero_le _, rfl, rfl, Lib.hid (below_alloc _ _), Lib.hid ?_⟩
    exact (World.rowIs_made w (.int .i64 0) n 3).congr fun j _ => by
      unfold cdF cdK
      by_cases e : j = 0 <;> simp [e]
  case round =>
    obtain ⟨i, hi, rfl, rfl, hb, hrow⟩ := hrel
    by_cases hlt : i < n
    · have hlti : (i : Int) < (n : Int) := by omega
      obtain ⟨b, off, rfl, hc⟩ := Hxc.out (by omega)
      have Hc := Lib.hid hc
      obtain ⟨wo, rfl⟩ : ∃ x : World, x = wr := ⟨_, rfl⟩
      have Hb := Lib.hid hb.out
      have Hrow := Lib.hid hrow.out
      clear hc hb hrow
      go_wp2_with fail
      go_loopg [5] (n - (i + 1)) (fun g s5 wr => ∃ t : Nat, i + 1 + t ≤ n ∧ g = n - (i + 1) - t ∧ s5 = .int .i64 ((i : Int) + 1 + (t : Int)) ∧ Hid (Below w.heap.size w wr) ∧ Hid (wr.rowIs w.heap.size 3 n (fun j => .int .i64 (cdF xs i t j : Nat))))
      case atStart => exact ⟨0, by omega, rfl, by go_num, Hb, Hrow⟩
      case round =>
        obtain ⟨t, ht, rfl, rfl, hb, hrow⟩ := hrel
        by_cases htl : i + 1 + t < n
        · have hti : (i : Int) + 1 + (t : Int) < (n : Int) := by omega
          obtain ⟨x, hx'⟩ : ∃ x, x = xs.getD (i + 1 + t) 0 := ⟨_, rfl⟩
          obtain ⟨y, hy'⟩ : ∃ y, y = xs.getD i 0 := ⟨_, rfl⟩
          have c1 : wr.cell? ⟨b, off + (i + 1 + t), none⟩ = some (.int .i64 x) := by rw [hx']; exact cell_below hb.out (Hc.out (i + 1 + t) htl)
          have c2 : wr.cell? ⟨b, off + i, none⟩ = some (.int .i64 y) := by rw [hy']; exact cell_below hb.out (Hc.out i hlt)
          have hnat : ((i : Int) + 1 + (t : Int)).toNat = i + 1 + t := by omega
          have h0 : (0 : Int) ≤ (i : Int) + 1 + (t : Int) := by omega
          have d1 := hrow.out.cell hlt
          have d2 := hrow.out.frozen i
          obtain ⟨z, hz⟩ : ∃ z, z = cdF xs i t i := ⟨_, rfl⟩
          rw [← hz] at d1
          have hz2 : z = cdK xs i t := by rw [hz]; unfold cdF; rw [if_neg (Nat.lt_irrefl _), if_pos rfl]
          have hz3 : z ≤ 10 := by rw [hz2]; have := cdK_le xs i t; omega
          have Hx := Lib.hid hx'
          have Hy := Lib.hid hy'
          have Hz := Lib.hid hz2
          have Hb1 := Lib.hid hb.out
          have Hrow1 := Lib.hid hrow.out
          clear hx' hy' hz hz2 hb hrow
          go_wp2_with fail
          go_quiet (fail)
          have Hb2 := Lib.hid (Below.drewN Hb1.out nq)
          have Hrow2 := Lib.hid (show (wr.drewN nq).rowIs w.heap.size 3 n (fun j => .int .i64 (cdF xs i t j : Nat)) from Hrow1.out.of_block rfl)
          have d1' : (wr.drewN nq).cell? ⟨w.heap.size, i, none⟩ = some (.int .i64 (z : Int)) := d1
          have d2' : (wr.drewN nq).frozen? ⟨w.heap.size, i, none⟩ = false := d2
          generalize wr.drewN nq = wd at *
          by_cases hxy : x < y
          · have Hk := Lib.hid (show cdK xs i (t + 1) = z + 1 by rw [cdK_yes (by rw [← Hx.out, ← Hy.out]; exact hxy), Hz.out])
            go_wp2_with fail
            go_roundg (n - (i + 1) - (t + 1))
            case measure => omega
            case rel =>
              refine ⟨t + 1, by omega, rfl, by go_num, Lib.hid (Hb2.out.setCell (Nat.le_refl _) _), Lib.hid ((Hrow2.out.set i _).congr fun j _ => ?_)⟩
              by_cases e : j = i
              · subst e
                rw [if_pos rfl]
                unfold cdF
                rw [if_neg (Nat.lt_irrefl _), if_pos rfl, Hk.out]
                go_num
              · rw [if_neg e]
                unfold cdF
                rw [if_neg e, if_neg e]
          · have Hk := Lib.hid (show cdK xs i (t + 1) = cdK xs i t by rw [cdK_no (by rw [← Hx.out, ← Hy.out]; exact hxy)])
            go_wp2_with fail
            go_roundg (n - (i + 1) - (t + 1))
            case measure => omega
            case rel =>
              refine ⟨t + 1, by omega, rfl, by go_num, Hb2, Lib.hid (Hrow2.out.congr fun j _ => ?_)⟩
              unfold cdF
              rw [Hk.out]
        · have hti : ¬ (i : Int) + 1 + (t : Int) < (n : Int) := by omega
          have htn : t = n - (i + 1) := by omega
          have Hb1 := Lib.hid hb.out
          have Hrow1 := Lib.hid hrow.out
          have Htn := Lib.hid htn
          clear hb hrow htn
          go_wp2_with fail
          go_roundg (n - (i + 1))
          case measure => omega
          case rel =>
            refine ⟨i + 1, by omega, rfl, by go_num, Hb1, Lib.hid (Hrow1.out.congr fun j _ => ?_)⟩
            unfold cdF
            by_cases e1 : j < i
            · rw [if_pos e1, if_pos (show j < i + 1 by omega)]
            · by_cases e2 : j = i
              · subst e2
                rw [if_neg e1, if_pos rfl, if_pos (Nat.lt_succ_self j)]
                unfold cdA
                rw [← Hn.out, Htn.out]
              · rw [if_neg e1, if_neg e2, if_neg (show ¬ j < i + 1 by omega)]
                by_cases e3 : j = i + 1
                · rw [if_pos e3]; rfl
                · rw [if_neg e3]
    · obtain rfl : n = i := by omega
      have hlti : ¬ (n : Int) < (n : Int) := by omega
      have hr0 : wr.rowIs w.heap.size 3 n (iv (cdL xs)) := hrow.out.congr fun j hj => by
        rw [iv, cdL_getD (by rw [← Hn.out]; exact hj)]
        unfold cdF
        rw [if_pos hj]
      have ho := rowIs_ints (xs := cdL xs) (by rw [cdL_length, ← Hn.out]; exact hr0) (by rw [cdL_length, ← Hn.out]; unfold maxLen; omega)
      rw [cdL_length, ← Hn.out] at ho
      have Ho := Lib.hid ho
      clear ho hrow
      go_wp2_with fail
      go_ret
      exact ⟨_, rfl, Ho.out, hb.out⟩

set_option maxRecDepth 100000 in
set_option maxHeartbeats 4000000 in
theorem l1Place_any (v : Value) (xs : List Int) (w : World) (h : Ints w v xs) (hl : xs.length ≤ 4) (hb : ∀ i, i ≤ xs.length → plA xs i ≤ 1000000) :
    Calls Try.prog 61 #[v] w fun e w' => e = .returned (.int .i64 (plN xs : Nat)) ∧ Below w.heap.size w w' := by
  have Hh := Lib.hid h
  obtain ⟨p, cap, rfl, ⟨hx1, hx⟩, hxc⟩ := h
  unfold maxLen at hx
  have Hbb := Lib.hid hb
  clear hb hxc
  go_enter Try.func61, Try.ntmps61
  go_wp2_with fail
  refine (l1Code_any _ xs _ Hh.out (by omega)).mono ?_
  rintro e w1 ⟨u, rfl, ho, hb⟩
  have hI := ho.ints
  obtain ⟨pu, ku, rfl, hku, hku2⟩ := ho.shape
  unfold maxLen at hku2
  obtain ⟨n, hn⟩ : ∃ n, n = xs.length := ⟨_, rfl⟩
  rw [cdL_length, ← hn] at hku hI ⊢
  have HI := Lib.hid hI
  have Hn := Lib.hid hn
  rw [← hn] at hl
  clear ho hI hn
  go_wp2_with fail
  go_loopg [4, 5] n (fun g s4 s5 wr => ∃ i : Nat, i ≤ n ∧ g = n - i ∧ s5 = .int .i64 i ∧ s4 = .int .i64 (plA xs i : Nat) ∧ w1 = wr)
  case atStart => exact ⟨0, Nat.zero_le _, rfl, rfl, rfl, rfl⟩
  case round =>
    obtain ⟨i, hi, rfl, rfl, rfl, rfl⟩ := hrel
    obtain ⟨A, hA⟩ : ∃ A, A = plA xs i := ⟨_, rfl⟩
    have hAb := Hbb.out i (by rw [← Hn.out]; exact hi)
    rw [← hA] at hAb ⊢
    by_cases hlt : i < n
    · have hlti : (i : Int) < (n : Int) := by omega
      have hI := HI.out
      obtain ⟨_, _, e, _, hc0⟩ := hI
      injection e with e1 e2 e3
      subst e1 e3
      rw [cdL_length] at hc0
      obtain ⟨b, off, hpb, hc⟩ := hc0 (by rw [← Hn.out]; omega)
      subst hpb
      have c0 := hc i (by rw [← Hn.out]; exact hlt)
      unfold iv at c0
      rw [cdL_getD (by rw [← Hn.out]; exact hlt)] at c0
      obtain ⟨c, hcc⟩ : ∃ c, c = cdA xs i := ⟨_, rfl⟩
      rw [← hcc] at c0
      have hcb : c ≤ 4 := by rw [hcc]; unfold cdA; have := cdK_le xs i (xs.length - (i + 1)); have := Hn.out; omega
      obtain ⟨m, hm⟩ : ∃ m, m = n - i := ⟨_, rfl⟩
      have Hmi := Lib.hid (show (n : Int) - (i : Int) = (m : Int) by omega)
      obtain ⟨Y, hY, HY1, HY2⟩ := mul_named A m (by have := Nat.mul_le_mul hAb (show m ≤ 4 by omega); omega)
      have HY1' := Lib.hid HY1
      have HY2' := Lib.hid HY2
      clear HY1 HY2
      have hYb : Y ≤ 4000000 := by have := Nat.mul_le_mul hAb (show m ≤ 4 by omega); rw [hY]; omega
      have Hp := Lib.hid (show plA xs (i + 1) = Y + c by rw [plA, ← hA, ← hcc, hY, hm, Hn.out])
      have HT1 := Lib.hid (show wrap64 ((Y : Int) + (c : Int)) = (Y : Int) + (c : Int) from w64 (by omega) (by omega))
      have HT2 := Lib.hid (show IntKind.i64.wrap ((Y : Int) + (c : Int)) = (Y : Int) + (c : Int) from k64 (by omega) (by omega))
      clear hA hcc hm hY hc hc0 e2 hAb hYb hcb
      have h3 := HY1'.out
      have h4 := HY2'.out
      have h5 := HT1.out
      have h6 := HT2.out
      have h7 := Hmi.out
      go_wp2_with fail
      clear h3 h4 h5 h6 h7
      go_roundg (n - (i + 1))
      case measure => omega
      case rel => exact ⟨i + 1, by omega, rfl, by go_num, by rw [Hp.out]; rfl, rfl⟩
    · obtain rfl : n = i := by omega
      have hlti : ¬ (n : Int) < (n : Int) := by omega
      have HA := Lib.hid hA
      clear hA
      go_wp2_with fail
      go_ret
      refine ⟨?_, hb⟩
      unfold plN
      rw [← Hn.out, ← HA.out]
      rfl

end Go.Proofs.Ytajmoclnmphmgaa
