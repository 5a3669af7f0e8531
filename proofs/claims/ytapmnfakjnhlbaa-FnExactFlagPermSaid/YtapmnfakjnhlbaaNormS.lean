/-
  The normal form of a flag: the reference's, walked.
-/
import Derived.Test.YtapmnfakjnhlbaaNormP
import Derived.Test.YtapmnfakjnhlbaaL7Red
namespace Go.Proofs.Ytapmnfakjnhlbaa
set_option linter.all false
open Go.RowKit

/-- what l7Normal returns -/
def RetNm (w : World) (P : Int) (n : Nat) (M0 : Nat → Nat → Int) (e : Ending) (w' : World) : Prop :=
  ∃ (u v : Value) (h : Nat → Int) (qf : Nat → Nat), e = .returned (.tuple #[.agg #[.int .i64 P, .int .i64 (n : Int), .int .i64 (n : Int), u], v]) ∧
    OwnF w' w.heap.size w'.heap.size 3 u (n * n) (fun t => .int .i64 (h t)) ∧ OwnF w' w.heap.size w'.heap.size 3 v n (fun k => .int .i64 (qf k : Int)) ∧ Below w.heap.size w w' ∧ NfUp P n M0 (mf n h) qf n

/-- seven cells that a region reads -/
theorem keep7 {W W' : World} {a0 a1 a2 a3 a4 a5 a6 : Addr} {v0 v1 v2 v3 v4 v5 v6 : Value} (hb : Below W.heap.size W W')
    (h : W.cell? a0 = some v0 ∧ W.cell? a1 = some v1 ∧ W.cell? a2 = some v2 ∧ W.cell? a3 = some v3 ∧ W.cell? a4 = some v4 ∧ W.cell? a5 = some v5 ∧ W.cell? a6 = some v6) :
    W'.cell? a0 = some v0 ∧ W'.cell? a1 = some v1 ∧ W'.cell? a2 = some v2 ∧ W'.cell? a3 = some v3 ∧ W'.cell? a4 = some v4 ∧ W'.cell? a5 = some v5 ∧ W'.cell? a6 = some v6 :=
  ⟨cell_below hb h.1, cell_below hb h.2.1, cell_below hb h.2.2.1, cell_below hb h.2.2.2.1, cell_below hb h.2.2.2.2.1, cell_below hb h.2.2.2.2.2.1, cell_below hb h.2.2.2.2.2.2⟩
theorem nm_fin {w wr : World} {T : TypeId} {P : Int} {n : Nat} {d : Value} {q : Nat} {p p5 : Option Addr} {k k5 N : Nat} {h : Nat → Int} {qf : Nat → Nat} {M0 : Nat → Nat → Int} (hN : N = n * n)
    (hrs : RS w T 3 P n n d q p k N h wr) (hpv : OwnF wr (q + 1) wr.heap.size 3 (.slice p5 n k5) n (fun k => .int .i64 (qf k : Int))) (hL : NfUp P n M0 (mf n h) qf n) :
    RetNm w P n M0 (.returned (.tuple #[.agg #[.int .i64 P, .int .i64 (n : Int), .int .i64 (n : Int), .slice p N k], .slice p5 n k5]))
      ((((wr.setCell ⟨w.heap.size + 1, 0, none⟩ (.int .i64 P)).setCell ⟨w.heap.size + 1, 1, none⟩ (.int .i64 (n : Int))).setCell ⟨w.heap.size + 1, 2, none⟩ (.int .i64 (n : Int))).setCell ⟨w.heap.size + 1, 3, none⟩ (.slice p N k)) := by
  obtain ⟨a1, a2, a3, a4, a5, a6⟩ := hrs
  have hq := blk_lt a3
  refine ⟨_, _, h, qf, rfl, ?_, ?_, below_set4 a5 (by omega) _ _ _ _, hL⟩
  · subst hN
    exact ((((a4.setCell (.inl (by show w.heap.size + 1 < _; omega)) _).setCell (.inl (by show w.heap.size + 1 < _; omega)) _).setCell (.inl (by show w.heap.size + 1 < _; omega)) _).setCell (.inl (by show w.heap.size + 1 < _; omega)) _).mono (by omega) (by simp only [size_setCell]; omega)
  · exact ((((hpv.setCell (.inl (by show w.heap.size + 1 < _; omega)) _).setCell (.inl (by show w.heap.size + 1 < _; omega)) _).setCell (.inl (by show w.heap.size + 1 < _; omega)) _).setCell (.inl (by show w.heap.size + 1 < _; omega)) _).mono (by omega) (by simp only [size_setCell]; omega)

set_option maxRecDepth 100000 in
set_option maxHeartbeats 8000000 in
theorem l7Normal_any (P : Int) (n : Nat) (d : Value) (D : List Int) (w : World) (hd : Ints w d D) (hD : D.length = n * n) (hrg : ∀ t, 0 ≤ D.getD t 0 ∧ D.getD t 0 < P) (hP : primeOk P = true) (hn0 : 1 ≤ n) (hn : n ≤ 7)
    (hrk : HasRank P n n (mf n fun t => D.getD t 0) n) :
    Calls Try.prog 35 #[.agg #[.int .i64 P, .int .i64 (n : Int), .int .i64 (n : Int), d]] w (RetNm w P n (mf n fun t => D.getD t 0)) := by
  obtain ⟨hP2, hP7⟩ := primeOk_range hP
  have hI := Lib.hid hd
  obtain ⟨pd, kd, rfl, ⟨_, mx⟩, _⟩ := hd
  unfold maxLen at mx
  have hRC : n * n ≤ 7 * 7 := Nat.mul_le_mul hn hn
  have hDl : D.length ≤ 196 := by omega
  obtain ⟨z1, z2⟩ := box2_start w 26 26 P n n (.slice pd D.length kd)
  have hB0 := below_alloc2 w (.cells #[.int .i64 P, .int .i64 n, .int .i64 n, .slice pd D.length kd] 26) (.cells #[.int .i64 0, .int .i64 0, .int .i64 0, .slice none 0 0] 26)
  have Z1 := Lib.hid z1
  have Z2 := Lib.hid z2
  have HB0 := Lib.hid hB0
  have HP := Lib.hid hP
  have HD := Lib.hid hD
  have Hrg := Lib.hid hrg
  have Hrk := Lib.hid hrk
  clear z1 z2 hB0 hP hD hrg hrk
  go_enter Try.func35, Try.ntmps35
  go_wp2_with fail
  have hs0 : ((w.alloc (.cells #[.int .i64 P, .int .i64 n, .int .i64 n, .slice pd D.length kd] 26)).alloc (.cells #[.int .i64 0, .int .i64 0, .int .i64 0, .slice none 0 0] 26)).heap.size = w.heap.size + 1 + 1 := by simp
  generalize (w.alloc (.cells #[.int .i64 P, .int .i64 n, .int .i64 n, .slice pd D.length kd] 26)).alloc (.cells #[.int .i64 0, .int .i64 0, .int .i64 0, .slice none 0 0] 26) = w2 at *
  refine (l7Copy_any P n n _ D _ (hI.out.below HB0.out) (by omega)).mono ?_
  rintro e w3 ⟨u, rfl, ho3', hb3⟩
  have ho3 : OwnI 3 w3 w2.heap.size w3.heap.size u D := ho3'
  clear ho3'
  obtain ⟨p, k, rfl, hk1, hk2⟩ := ho3.shape
  unfold maxLen at hk2
  have hs3 := hb3.size
  have hRS : RS w 26 3 P n n (.slice pd D.length kd) w3.heap.size p k D.length (fun t => D.getD t 0) ((w3.alloc (.cells #[.int .i64 P, .int .i64 n, .int .i64 n, .slice p D.length k] 26)).alloc (.cells #[] 3)) := by
    have hb4 := below_alloc2 w3 (.cells #[.int .i64 P, .int .i64 n, .int .i64 n, .slice p D.length k] 26) (.cells #[] 3)
    have hb5 : Below w2.heap.size w2 ((w3.alloc (.cells #[.int .i64 P, .int .i64 n, .int .i64 n, .slice p D.length k] 26)).alloc (.cells #[] 3)) := hb3.trans (hb4.mono hs3)
    refine ⟨blk_later Z1.out hb5, blk_later Z2.out hb5, ?_, ?_, HB0.out.trans (hb5.mono (by omega)), by omega⟩
    · rw [heap_alloc_low _ _ (by simp)]; exact heap_alloc_top _ _
    · exact ((ho3.below hb4).fn).mono (by omega) (Nat.le_refl _)
  have HRS := Lib.hid hRS
  have Z13 := Lib.hid (blk_later Z1.out hb3)
  clear hRS ho3
  obtain ⟨m0, m1, m2, m3, mf', mz⟩ := blk4 Z13.out
  go_wp2_with fail
  clear m0 m1 m2 m3 mf' mz
  go_loopg [6, 7] n (fun g s6 s7 wr => ∃ (i : Nat) (qf : Nat → Nat) (h : Nat → Int), i ≤ n ∧ g = n - i ∧ s7 = .int .i64 i ∧
    Hid (RS w 26 3 P n n (.slice pd D.length kd) w3.heap.size p k D.length h wr) ∧ Hid (OwnF wr (w3.heap.size + 1) wr.heap.size 3 s6 i (fun k => .int .i64 (qf k : Int))) ∧
    Hid (NfUp P n (mf n fun t => D.getD t 0) (mf n h) qf i) ∧ Hid (∀ r c, i ≤ r → r < n → c < n → mf n h r c = mf n (fun t => D.getD t 0) r c))
  case atStart =>
    refine ⟨0, fun _ => 0, fun t => D.getD t 0, Nat.zero_le _, rfl, rfl, HRS.out, ?_, fun k hk => absurd hk (Nat.not_lt_zero _), fun _ _ _ _ _ => rfl⟩
    have := OwnF.made0 (w3.alloc (.cells #[.int .i64 P, .int .i64 n, .int .i64 n, .slice p D.length k] 26)) 3 (fun k => .int .i64 ((0 : Nat) : Int))
    simp only [size_alloc] at this
    refine Lib.hid (this.mono (Nat.le_refl _) ?_)
    simp
  case round =>
    obtain ⟨i, qf, h, hi, rfl, rfl, hrs, hpv, hL, hrest⟩ := hrel
    clear HRS
    obtain ⟨p5, k5, rfl, hk5, hk5b, _⟩ := hpv.out.shape
    unfold maxLen at hk5b
    obtain ⟨m0, m1, m2, m3, mf', mz⟩ := blk4 hrs.out.1
    by_cases hin : i < n
    · have hrow : ∀ a c, a < n → c < n → a * n + c < D.length := fun a c ha hc => by
        have := mul_le_of (C := n) ha
        rw [Nat.add_mul, Nat.one_mul, ← HD.out] at this
        omega
      have hD0 : 0 < D.length := by have := hrow i 0 hin (by omega); omega
      obtain ⟨g, rfl, hg1, hg2, hg3⟩ := hrs.out.2.2.2.1.at_ hD0
      have hne1 : w.heap.size ≠ g := by omega
      have hne2 : w3.heap.size ≠ g := by omega
      obtain ⟨wo, rfl⟩ : ∃ x : World, x = wr := ⟨_, rfl⟩
      have hq3 : w3.heap.size < wo.heap.size := blk_lt hrs.out.2.2.1
      have Hrt : Hid (RT w 26 3 P n n (.slice pd D.length kd) w3.heap.size (some ⟨g, 0, none⟩) k D.length wo.heap.size (.slice p5 i k5) i qf h wo) := Lib.hid ⟨hrs.out, hpv.out, Nat.le_refl _⟩
      have Hrow := Lib.hid hrow
      have HrM : Hid (∀ c, c < n → 0 ≤ (mf n fun t => D.getD t 0) i c ∧ (mf n fun t => D.getD t 0) i c < P) := Lib.hid (fun c _ => Hrg.out _)
      have HE := Lib.hid (fun t c (hc : c < n) => elN_rng (X := mf n h) (q := qf) hP2 HrM.out t c hc)
      have HXr := Lib.hid (hL.out.rng hP2)
      clear hrs hpv hrow
      go_wp2_with fail
      clear m0 m1 m2 m3 mf' mz
      go_loopg [8] i (fun gg s8 wr => ∃ (t : Nat) (h' : Nat → Int), t ≤ i ∧ gg = i - t ∧ s8 = .int .i64 t ∧ Hid (RT w 26 3 P n n (.slice pd D.length kd) w3.heap.size (some ⟨g, 0, none⟩) k D.length wo.heap.size (.slice p5 i k5) i qf h' wr) ∧
        Hid (∀ r c, r < n → c < n → mf n h' r c = if r = i then elN P (mf n h) qf ((mf n fun t => D.getD t 0) i) t c else mf n h r c))
      case atStart =>
        refine ⟨0, h, Nat.zero_le _, rfl, rfl, Hrt.out, fun r c hr hc => ?_⟩
        by_cases e : r = i
        · subst e; rw [if_pos rfl]; exact hrest.out r c (Nat.le_refl _) hr hc
        · rw [if_neg e]
      case round =>
        obtain ⟨t, h', ht, rfl, rfl, hrt, hval⟩ := hrel
        obtain ⟨wa, rfl⟩ : ∃ x : World, x = wr := ⟨_, rfl⟩
        obtain ⟨m0, m1, m2, m3, mf', mz⟩ := blk4 hrt.out.1.1
        obtain ⟨o0, o1, o2, o3, of, oz⟩ := blk4 hrt.out.1.2.2.1
        by_cases hti : t < i
        · obtain ⟨g5, rfl, _, _, _⟩ := hrt.out.2.1.at_ (by omega)
          have c5 := hrt.out.2.1.cell hti
          obtain ⟨Q, hQ⟩ : ∃ Q, Q = qf t := ⟨_, rfl⟩
          have hQn : Q < n := by rw [hQ]; exact (hL.out t hti).1
          rw [← hQ] at c5
          obtain ⟨x, hx⟩ : ∃ x, x = mf n h' i Q := ⟨_, rfl⟩
          have hxE : x = elN P (mf n h) qf ((mf n fun t => D.getD t 0) i) t Q := by rw [hx, hval.out i Q hin hQn, if_pos rfl]
          have hxr := HE.out t Q hQn
          rw [← hxE] at hxr
          have CA := Lib.hid (l7At_b P n n i Q (some ⟨g, 0, none⟩) k D.length h' x hx (by omega) (Hrow.out i Q hin hQn))
          have HxE := Lib.hid hxE
          have HQ := Lib.hid hQ
          have ht5 : (t : Int) < (i : Int) := by omega
          clear hx hxE hQ
          go_wp2_with fail
          go_region_held3 (fun w' => w'.cell? ⟨w.heap.size, 0, none⟩ = some (.int .i64 P) ∧ w'.cell? ⟨w.heap.size, 2, none⟩ = some (.int .i64 (n : Int)) ∧ w'.cell? ⟨w3.heap.size, 0, none⟩ = some (.int .i64 P) ∧ w'.cell? ⟨w3.heap.size, 1, none⟩ = some (.int .i64 (n : Int)) ∧ w'.cell? ⟨w3.heap.size, 2, none⟩ = some (.int .i64 (n : Int)) ∧ w'.cell? ⟨w3.heap.size, 3, none⟩ = some (.slice (some ⟨g, 0, none⟩) D.length k) ∧ w'.cell? ⟨g5, t, none⟩ = some (.int .i64 (Q : Int)))
            (first | exact ⟨m0, m2, o0, o1, o2, o3, c5⟩ | exact keep7 hb1 (by assumption))
            (first | (go_at_call 59; refine (CA.out _ (hrt.out.1.later (by first | exact Below.refl _ _ | exact (Below.refl _ _).drew)).ints).mono ?_; rintro e w' ⟨rfl, hb1⟩; have hbz : Below wa.heap.size wa w' := (by first | exact below_trans hbz hb1 | exact below_trans hbz (below_of_drew hb1) | exact hb1 | exact below_of_drew hb1)))
          have Hrb := Lib.hid (hrt.out.later hbz)
          clear hb1 hbz hrt CA c5 m0 m1 m2 m3 mf' mz o0 o1 o2 o3 of oz
          obtain ⟨wb, rfl⟩ : ∃ x : World, x = w' := ⟨_, rfl⟩
          go_wp2_with fail
          go_loopg [10] n (fun gg s10 wr => ∃ (c : Nat) (h4 : Nat → Int), c ≤ n ∧ gg = n - c ∧ s10 = .int .i64 c ∧ Hid (RT w 26 3 P n n (.slice pd D.length kd) w3.heap.size (some ⟨g, 0, none⟩) k D.length wo.heap.size (.slice (some ⟨g5, 0, none⟩) i k5) i qf h4 wr) ∧
            Hid (∀ r c', r < n → c' < n → mf n h4 r c' = if r = i then (if c' < c then elN P (mf n h) qf ((mf n fun t => D.getD t 0) i) (t + 1) c' else elN P (mf n h) qf ((mf n fun t => D.getD t 0) i) t c') else mf n h r c'))
          case atStart => exact ⟨0, h', Nat.zero_le _, rfl, rfl, Hrb.out, fun r c hr hc => by rw [hval.out r c hr hc]; simp⟩
          case round =>
            obtain ⟨c3, h4, hc3, rfl, rfl, hrt, hval4⟩ := hrel
            obtain ⟨wa, rfl⟩ : ∃ x : World, x = wr := ⟨_, rfl⟩
            obtain ⟨m0, m1, m2, m3, mf', mz⟩ := blk4 hrt.out.1.1
            obtain ⟨o0, o1, o2, o3, of, oz⟩ := blk4 hrt.out.1.2.2.1
            by_cases hc3n : c3 < n
            · have htn : t < n := by omega
              have hne : t ≠ i := by omega
              have hT1 := Hrow.out i c3 hin hc3n
              have hT2 := Hrow.out t c3 htn hc3n
              obtain ⟨x1, hx1⟩ : ∃ x, x = mf n h4 i c3 := ⟨_, rfl⟩
              obtain ⟨x2, hx2⟩ : ∃ x, x = mf n h4 t c3 := ⟨_, rfl⟩
              have hx1M : x1 = elN P (mf n h) qf ((mf n fun t => D.getD t 0) i) t c3 := by rw [hx1, hval4.out i c3 hin hc3n, if_pos rfl, if_neg (Nat.lt_irrefl _)]
              have hx2M : x2 = mf n h t c3 := by rw [hx2, hval4.out t c3 htn hc3n, if_neg hne]
              have hx1r := HE.out t c3 hc3n
              have hx2r := HXr.out t c3 hti hc3n
              rw [← hx1M] at hx1r
              rw [← hx2M] at hx2r
              have CA := Lib.hid (l7At_b P n n i c3 (some ⟨g, 0, none⟩) k D.length h4 x1 hx1 (by omega) hT1)
              have CB := Lib.hid (l7At_b P n n t c3 (some ⟨g, 0, none⟩) k D.length h4 x2 hx2 (by omega) hT2)
              obtain ⟨K1, hK1, r1, r2⟩ := mul_named i n (by have := Nat.mul_le_mul (show i ≤ 7 by omega) hn; omega)
              have R1 := Lib.hid r1
              have R2 := Lib.hid r2
              clear r1 r2
              rw [← hK1] at hT1
              have HK1 := Lib.hid hK1
              have Hx1M := Lib.hid hx1M
              have Hx2M := Lib.hid hx2M
              clear hx1 hx2 hx1M hx2M hK1 hT2
              have hm := mul_range (a := 7) (b := 7) (show 0 ≤ P - x by omega) (show P - x ≤ 7 by omega) hx2r.1 (by omega)
              have Q2 := Lib.hid (rng64 (x := P - x) (by omega) (by omega))
              obtain ⟨z, hz⟩ : ∃ z, z = (P - x) * x2 := ⟨_, rfl⟩
              rw [← hz] at hm
              have hz0 : 0 ≤ z := hm.1
              have hz49 : z ≤ 49 := hm.2
              clear hm
              have Q3 := Lib.hid (rng64 (x := z) (by omega) (by omega))
              have HZ1 : Hid (wrap64 ((P - x) * x2) = z) := by have h := Q3.out.1; rw [hz] at h ⊢; exact h
              have HZ2 : Hid (IntKind.i64.wrap ((P - x) * x2) = z) := by have h := Q3.out.2; rw [hz] at h ⊢; exact h
              have HZ := Lib.hid hz
              clear hz
              have hp0 : ¬ P = 0 := by omega
              have hs0 : 0 ≤ x1 + z := by omega
              obtain ⟨rr, hrr⟩ : ∃ rr, rr = (x1 + z) % P := ⟨_, rfl⟩
              have hrr0 : 0 ≤ rr := by rw [hrr]; exact Int.emod_nonneg _ hp0
              have hrr1 : rr < P := by rw [hrr]; exact Int.emod_lt_of_pos _ (by omega)
              have E1 : Hid (Int.tmod (x1 + z) P = rr) := by rw [hrr]; exact Int.tmod_eq_emod_of_nonneg hs0
              have HR := Lib.hid hrr
              clear hrr
              have Q1 := Lib.hid (rng64 (x := (K1 : Int) + (c3 : Int)) (by omega) (by omega))
              have Q4 := Lib.hid (rng64 (x := x1 + z) (by omega) (by omega))
              have Q5 := Lib.hid (rng64 (x := rr) (by omega) (by omega))
              have hi1 : (0 : Int) ≤ (K1 : Int) + c3 := by omega
              have hi2 : (K1 : Int) + (c3 : Int) < (D.length : Int) := by omega
              have hi3 : ((K1 : Int) + (c3 : Int)).toNat = K1 + c3 := by omega
              go_wp2_with fail
              have f1 := R1.out
              have f2 := R2.out
              obtain ⟨f3, f4⟩ := Q1.out
              obtain ⟨f5, f6⟩ := Q2.out
              have f7 := HZ1.out
              have f8 := HZ2.out
              obtain ⟨f9, f10⟩ := Q4.out
              obtain ⟨f11, f12⟩ := Q5.out
              have f13 := E1.out
              have f14 := HR.out.symm
              go_region_held3 (fun w' => w'.cell? ⟨w.heap.size, 0, none⟩ = some (.int .i64 P) ∧ w'.cell? ⟨w.heap.size, 2, none⟩ = some (.int .i64 (n : Int)) ∧ w'.cell? ⟨w3.heap.size, 0, none⟩ = some (.int .i64 P) ∧ w'.cell? ⟨w3.heap.size, 1, none⟩ = some (.int .i64 (n : Int)) ∧ w'.cell? ⟨w3.heap.size, 2, none⟩ = some (.int .i64 (n : Int)) ∧ w'.cell? ⟨w3.heap.size, 3, none⟩ = some (.slice (some ⟨g, 0, none⟩) D.length k))
                (first | exact ⟨m0, m2, o0, o1, o2, o3⟩ | exact keep6 hb1 (by assumption) | exact keep6_set hne1 hne2 (by assumption))
                (first
                  | (go_at_call_of 59 (Value.int .i64 (i : Int)); refine (CA.out _ (hrt.out.1.later (by first | exact hbz | exact hbz.drew | exact Below.refl _ _ | exact (Below.refl _ _).drew)).ints).mono ?_; rintro e w' ⟨rfl, hb1⟩; have hbz : Below wa.heap.size wa w' := (by first | exact below_trans hbz hb1 | exact below_trans hbz (below_of_drew hb1) | exact hb1 | exact below_of_drew hb1); obtain ⟨dc, df⟩ := (hrt.out.1.later hbz).cell hT1)
                  | (go_at_call_of 59 (Value.int .i64 (t : Int)); refine (CB.out _ (hrt.out.1.later (by first | exact hbz | exact hbz.drew | exact Below.refl _ _ | exact (Below.refl _ _).drew)).ints).mono ?_; rintro e w' ⟨rfl, hb1⟩; have hbz : Below wa.heap.size wa w' := (by first | exact below_trans hbz hb1 | exact below_trans hbz (below_of_drew hb1) | exact hb1 | exact below_of_drew hb1); obtain ⟨dc, df⟩ := (hrt.out.1.later hbz).cell hT1))
              have Hrd := Lib.hid ((hrt.out.later hbz).set hD0 (K1 + c3) rr)
              clear f1 f2 f3 f4 f5 f6 f7 f8 f9 f10 f11 f12 f13 f14 hb1 hbz dc df hi1 hi2 hi3 m0 m1 m2 m3 mf' mz o0 o1 o2 o3 of oz CA CB
              go_wp2_with fail
              go_roundg (n - (c3 + 1))
              case measure => omega
              case rel =>
                refine ⟨c3 + 1, _, by omega, rfl, by go_num, Hrd.out, fun r c' hr hc' => ?_⟩
                rw [HK1.out, mf_set hc3n hc', hval4.out r c' hr hc', HR.out, HZ.out, Hx1M.out, Hx2M.out, HxE.out, HQ.out]
                by_cases er : r = i
                · subst er
                  by_cases ec : c' = c3
                  · subst ec
                    rw [if_pos ⟨rfl, rfl⟩, if_pos rfl, if_pos (Nat.lt_succ_self _)]
                    rfl
                  · rw [if_neg (fun hh => ec hh.2), if_pos rfl, if_pos rfl]
                    by_cases e3 : c' < c3
                    · rw [if_pos e3, if_pos (show c' < c3 + 1 by omega)]
                    · rw [if_neg e3, if_neg (show ¬ c' < c3 + 1 by omega)]
                · rw [if_neg (fun hh => er hh.1), if_neg er, if_neg er]
            · have hval5 : ∀ r c', r < n → c' < n → mf n h4 r c' = if r = i then elN P (mf n h) qf ((mf n fun t => D.getD t 0) i) (t + 1) c' else mf n h r c' := fun r c' hr hc' => by
                rw [hval4.out r c' hr hc', if_pos (show c' < c3 by omega)]
              have Hval5 := Lib.hid hval5
              clear hval5 hval4
              go_wp2_with fail
              go_roundg (i - (t + 1))
              case measure => omega
              case rel => exact ⟨t + 1, h4, by omega, rfl, by go_num, hrt.out, Hval5.out⟩
        · obtain rfl : i = t := by omega
          have hleft := hL.out.left HP.out (fun k j hj => Hrg.out _) Hrk.out hin
          have Hleft := Lib.hid hleft
          have Hval := Lib.hid hval.out
          have Hrb := Lib.hid hrt.out
          clear hleft hval hrt
          go_wp2_with fail
          clear m0 m1 m2 m3 mf' mz o0 o1 o2 o3 of oz
          go_loopg [11] n (fun gg s11 wr => ∃ a : Nat, a < n ∧ gg = n - a ∧ s11 = .int .i64 a ∧ Hid (Below wa.heap.size wa wr) ∧ Hid (∀ j, j < a → elN P (mf n h) qf ((mf n fun t => D.getD t 0) i) i j = 0))
          case atStart => exact ⟨0, by omega, rfl, rfl, Below.refl _ _, fun j hj => absurd hj (Nat.not_lt_zero _)⟩
          case round =>
            obtain ⟨a, han, rfl, rfl, hbx, hz⟩ := hrel
            obtain ⟨wx, rfl⟩ : ∃ x : World, x = wr := ⟨_, rfl⟩
            have Hrx := Lib.hid (Hrb.out.later hbx.out)
            obtain ⟨m0, m1, m2, m3, mf', mz⟩ := blk4 Hrx.out.1.1
            obtain ⟨o0, o1, o2, o3, of, oz⟩ := blk4 Hrx.out.1.2.2.1
            obtain ⟨y, hy⟩ : ∃ y, y = mf n h' i a := ⟨_, rfl⟩
            have hyE : y = elN P (mf n h) qf ((mf n fun t => D.getD t 0) i) i a := by rw [hy, Hval.out i a hin han, if_pos rfl]
            have hyr := HE.out i a han
            rw [← hyE] at hyr
            have CA := Lib.hid (l7At_b P n n i a (some ⟨g, 0, none⟩) k D.length h' y hy (by omega) (Hrow.out i a hin han))
            have HyE := Lib.hid hyE
            clear hy hyE
            by_cases hy0 : y = 0
            · have ha1 : a + 1 < n := by
                rcases Nat.lt_or_ge (a + 1) n with hh | hh
                · exact hh
                · exfalso
                  apply Hleft.out
                  intro j hj
                  by_cases e : j = a
                  · rw [e]; exact HyE.out.symm.trans hy0
                  · exact hz.out j (by omega)
              subst hy0
              go_wp2_with fail
              refine (CA.out wx Hrx.out.1.ints).mono ?_
              rintro e wy ⟨rfl, hby⟩
              have Hby := Lib.hid (hbx.out.trans (hby.mono hbx.out.size))
              clear hby m0 m1 m2 m3 mf' mz o0 o1 o2 o3 of oz
              go_wp2_with fail
              go_roundg (n - (a + 1))
              case measure => omega
              case rel =>
                refine ⟨a + 1, ha1, rfl, by go_num, Hby.out, fun j hj => ?_⟩
                by_cases e : j = a
                · rw [e]; exact HyE.out.symm
                · exact hz.out j (by omega)
            · have hy0' : (y == 0) = false := by simpa using hy0
              have CI := Lib.hid (fun W => l7Inverse_b y P W HP.out (by omega) hyr.2)
              go_wp2_with fail
              refine (CA.out wx Hrx.out.1.ints).mono ?_
              rintro e wa ⟨rfl, hby⟩
              have Hra := Lib.hid (Hrx.out.later hby)
              clear hby m0 m1 m2 m3 mf' mz o0 o1 o2 o3 of oz Hrx
              obtain ⟨m0, m1, m2, m3, mf', mz⟩ := blk4 Hra.out.1.1
              obtain ⟨o0, o1, o2, o3, of, oz⟩ := blk4 Hra.out.1.2.2.1
              go_wp2_with fail
              go_region_held3 (fun w' => w'.cell? ⟨w.heap.size, 0, none⟩ = some (.int .i64 P) ∧ w'.cell? ⟨w.heap.size, 2, none⟩ = some (.int .i64 (n : Int)) ∧ w'.cell? ⟨w3.heap.size, 0, none⟩ = some (.int .i64 P) ∧ w'.cell? ⟨w3.heap.size, 1, none⟩ = some (.int .i64 (n : Int)) ∧ w'.cell? ⟨w3.heap.size, 2, none⟩ = some (.int .i64 (n : Int)) ∧ w'.cell? ⟨w3.heap.size, 3, none⟩ = some (.slice (some ⟨g, 0, none⟩) D.length k))
                (first | exact ⟨m0, m2, o0, o1, o2, o3⟩ | exact keep6 hb1 (by assumption) | exact keep6_set hne1 hne2 (by assumption))
                (first
                  | (go_at_call 59; refine (CA.out _ (Hra.out.1.later (by first | exact Below.refl _ _ | exact (Below.refl _ _).drew)).ints).mono ?_; rintro e w' ⟨rfl, hb1⟩; have hbz : Below wa.heap.size wa w' := (by first | exact below_trans hbz hb1 | exact below_trans hbz (below_of_drew hb1) | exact hb1 | exact below_of_drew hb1))
                  | (go_at_call 60; refine (CI.out _).mono ?_; rintro e w' ⟨v, rfl, hva, hvb, hvc, hb1⟩; have hbz : Below wa.heap.size wa w' := (by first | exact below_trans hbz hb1 | exact below_trans hbz (below_of_drew hb1) | exact hb1 | exact below_of_drew hb1)))
              have Hrc := Lib.hid (Hra.out.later hbz)
              have Hvc := Lib.hid hvc
              clear hb1 hbz hvc m0 m1 m2 m3 mf' mz o0 o1 o2 o3 of oz Hra CA CI hy0'
              obtain ⟨wd, rfl⟩ : ∃ x : World, x = w' := ⟨_, rfl⟩
              go_wp2_with fail
              go_loopg [13] n (fun gg s13 wr => ∃ (c : Nat) (h6 : Nat → Int), c ≤ n ∧ gg = n - c ∧ s13 = .int .i64 c ∧ Hid (RT w 26 3 P n n (.slice pd D.length kd) w3.heap.size (some ⟨g, 0, none⟩) k D.length wo.heap.size (.slice p5 i k5) i qf h6 wr) ∧
                Hid (∀ r c', r < n → c' < n → mf n h6 r c' = if r = i then (if c' < c then v * elN P (mf n h) qf ((mf n fun t => D.getD t 0) i) i c' % P else elN P (mf n h) qf ((mf n fun t => D.getD t 0) i) i c') else mf n h r c'))
              case atStart => exact ⟨0, h', Nat.zero_le _, rfl, rfl, Hrc.out, fun r c hr hc => by rw [Hval.out r c hr hc]; simp⟩
              case round =>
                obtain ⟨c2, h6, hc2, rfl, rfl, hrt, hval⟩ := hrel
                obtain ⟨wa, rfl⟩ : ∃ x : World, x = wr := ⟨_, rfl⟩
                obtain ⟨m0, m1, m2, m3, mf', mz⟩ := blk4 hrt.out.1.1
                obtain ⟨o0, o1, o2, o3, of, oz⟩ := blk4 hrt.out.1.2.2.1
                by_cases hc2n : c2 < n
                · have hT1 := Hrow.out i c2 hin hc2n
                  obtain ⟨x, hx⟩ : ∃ x, x = mf n h6 i c2 := ⟨_, rfl⟩
                  have hxM : x = elN P (mf n h) qf ((mf n fun t => D.getD t 0) i) i c2 := by rw [hx, hval.out i c2 hin hc2n, if_pos rfl, if_neg (Nat.lt_irrefl _)]
                  have hxr := HE.out i c2 hc2n
                  rw [← hxM] at hxr
                  have CA := Lib.hid (l7At_b P n n i c2 (some ⟨g, 0, none⟩) k D.length h6 x hx (by omega) hT1)
                  obtain ⟨K1, hK1, r1, r2⟩ := mul_named i n (by have := Nat.mul_le_mul (show i ≤ 7 by omega) hn; omega)
                  have R1 := Lib.hid r1
                  have R2 := Lib.hid r2
                  clear r1 r2
                  rw [← hK1] at hT1
                  have HK1 := Lib.hid hK1
                  have HxM := Lib.hid hxM
                  clear hx hxM hK1
                  have hm := mul_range (a := 7) (b := 7) hxr.1 (by omega) (show 0 ≤ v by omega) (by omega)
                  obtain ⟨z, hz⟩ : ∃ z, z = x * v := ⟨_, rfl⟩
                  rw [← hz] at hm
                  have hz0 : 0 ≤ z := hm.1
                  have hz49 : z ≤ 49 := hm.2
                  clear hm
                  have Q3 := Lib.hid (rng64 (x := z) (by omega) (by omega))
                  have HZ1 : Hid (wrap64 (x * v) = z) := by have h := Q3.out.1; rw [hz] at h ⊢; exact h
                  have HZ2 : Hid (IntKind.i64.wrap (x * v) = z) := by have h := Q3.out.2; rw [hz] at h ⊢; exact h
                  have HZ := Lib.hid hz
                  clear hz
                  have hp0 : ¬ P = 0 := by omega
                  obtain ⟨rr, hrr⟩ : ∃ rr, rr = z % P := ⟨_, rfl⟩
                  have hrr0 : 0 ≤ rr := by rw [hrr]; exact Int.emod_nonneg _ hp0
                  have hrr1 : rr < P := by rw [hrr]; exact Int.emod_lt_of_pos _ (by omega)
                  have E1 : Hid (Int.tmod z P = rr) := by rw [hrr]; exact Int.tmod_eq_emod_of_nonneg hz0
                  have HR := Lib.hid hrr
                  clear hrr
                  have Q1 := Lib.hid (rng64 (x := (K1 : Int) + (c2 : Int)) (by omega) (by omega))
                  have Q5 := Lib.hid (rng64 (x := rr) (by omega) (by omega))
                  have hi1 : (0 : Int) ≤ (K1 : Int) + c2 := by omega
                  have hi2 : (K1 : Int) + (c2 : Int) < (D.length : Int) := by omega
                  have hi3 : ((K1 : Int) + (c2 : Int)).toNat = K1 + c2 := by omega
                  go_wp2_with fail
                  have f1 := R1.out
                  have f2 := R2.out
                  obtain ⟨f3, f4⟩ := Q1.out
                  have f5 := HZ1.out
                  have f6 := HZ2.out
                  obtain ⟨f7, f8⟩ := Q5.out
                  have f9 := E1.out
                  have f10 := HR.out.symm
                  go_region_held3 (fun w' => w'.cell? ⟨w.heap.size, 0, none⟩ = some (.int .i64 P) ∧ w'.cell? ⟨w.heap.size, 2, none⟩ = some (.int .i64 (n : Int)) ∧ w'.cell? ⟨w3.heap.size, 0, none⟩ = some (.int .i64 P) ∧ w'.cell? ⟨w3.heap.size, 1, none⟩ = some (.int .i64 (n : Int)) ∧ w'.cell? ⟨w3.heap.size, 2, none⟩ = some (.int .i64 (n : Int)) ∧ w'.cell? ⟨w3.heap.size, 3, none⟩ = some (.slice (some ⟨g, 0, none⟩) D.length k))
                    (first | exact ⟨m0, m2, o0, o1, o2, o3⟩ | exact keep6 hb1 (by assumption) | exact keep6_set hne1 hne2 (by assumption))
                    (first | (go_at_call 59; refine (CA.out _ (hrt.out.1.later (by first | exact Below.refl _ _ | exact (Below.refl _ _).drew)).ints).mono ?_; rintro e w' ⟨rfl, hb1⟩; have hbz : Below wa.heap.size wa w' := (by first | exact hb1 | exact below_of_drew hb1); obtain ⟨dc, df⟩ := (hrt.out.1.later hbz).cell hT1))
                  have Hrd := Lib.hid ((hrt.out.later hbz).set hD0 (K1 + c2) rr)
                  clear f1 f2 f3 f4 f5 f6 f7 f8 f9 f10 hb1 hbz dc df hi1 hi2 hi3 m0 m1 m2 m3 mf' mz o0 o1 o2 o3 of oz CA
                  go_wp2_with fail
                  go_roundg (n - (c2 + 1))
                  case measure => omega
                  case rel =>
                    refine ⟨c2 + 1, _, by omega, rfl, by go_num, Hrd.out, fun r c' hr hc' => ?_⟩
                    rw [HK1.out, mf_set hc2n hc', hval.out r c' hr hc', HR.out, HZ.out, HxM.out]
                    by_cases er : r = i
                    · subst er
                      by_cases ec : c' = c2
                      · subst ec
                        rw [if_pos ⟨rfl, rfl⟩, if_pos rfl, if_pos (Nat.lt_succ_self _), Int.mul_comm]
                      · rw [if_neg (fun hh => ec hh.2), if_pos rfl, if_pos rfl]
                        by_cases e3 : c' < c2
                        · rw [if_pos e3, if_pos (show c' < c2 + 1 by omega)]
                        · rw [if_neg e3, if_neg (show ¬ c' < c2 + 1 by omega)]
                    · rw [if_neg (fun hh => er hh.1), if_neg er, if_neg er]
                · have hvE : ∀ c', c' < n → mf n h6 i c' = v * elN P (mf n h) qf ((mf n fun t => D.getD t 0) i) i c' % P := fun c' hc' => by rw [hval.out i c' hin hc', if_pos rfl, if_pos (by omega)]
                  have hvO : ∀ r c', r < n → c' < n → r ≠ i → mf n h6 r c' = mf n h r c' := fun r c' hr hc' hne => by rw [hval.out r c' hr hc', if_neg hne]
                  have HvE := Lib.hid hvE
                  have HvO := Lib.hid hvO
                  have Hpv := Lib.hid hrt.out.2.1
                  have hhi := hrt.out.2.2
                  have hsw := hrt.out.1.2.2.2.2.1.size
                  have hwq := hrt.out.1.2.2.2.2.2
                  have Hbd1 := Lib.hid (show i + 1 ≤ maxLen by unfold maxLen; omega)
                  have Hbd2 := Lib.hid (show (i + 1) * 8 ≤ 140737488355328 by omega)
                  clear hvE hvO hval
                  go_wp2_with (at_builtin; go_must (refine wpList_append_F rfl (.tmp 102) (.tmp 104) 22 rfl 3 (.int .i64 0) 8 Try.underlying22 info_int rfl (w3.heap.size + 1) wo.heap.size _ i (fun k => .int .i64 (qf k : Int)) rfl (Hpv.out.below (below_alloc _ _)) (by simp; omega) (by simp; omega) _ _ _ rfl (rd_one _ _ _ rfl) (fun j _ => rfl) Hbd1.out Hbd2.out ?_; intro v' w' ho' hg'))
                  go_roundg (n - (i + 1))
                  case measure => omega
                  case rel =>
                    have hrsa := hrt.out.1.later (below_alloc wa (.cells #[.int .i64 (a : Int)] 3))
                    refine ⟨i + 1, fun k => if k < i then qf k else a, h6, by omega, rfl, by go_num, ?_, ?_, ?_, ?_⟩
                    · refine hrsa.keep (fun b hb hb2 => hg'.block b hb2 fun e => ?_) (hrsa.2.2.2.2.1.trans (grownBy_below hg' Hpv.out.blocks (by omega) (by simp; omega)))
                      have := (Hpv.out.blocks b e.symm).1
                      omega
                    · exact ho'.congr fun t _ => by
                        by_cases e : t < i
                        · simp only [e, if_true]
                        · simp only [e, if_false]
                    · have hX : ∀ k j, k < i → j < n → mf n h6 k j = mf n h k j := fun k j hk hj => HvO.out k j (by omega) hj (by omega)
                      have hq : ∀ k, k < i → (fun k => if k < i then qf k else a) k = qf k := fun k hk => by dsimp only; rw [if_pos hk]
                      have hc := elN_congr (P := P) (r := (mf n fun t => D.getD t 0) i) i (fun l hl => (hL.out l hl).1) (fun l hl => (hq l hl).symm) (fun l j hl hj => (hX l j hl hj).symm)
                      have hqi : (fun k => if k < i then qf k else a) i = a := by dsimp only; rw [if_neg (Nat.lt_irrefl _)]
                      refine hL.out.snoc hX hq ⟨by rw [hqi]; exact han, fun j hj => ?_, ?_, v, ?_, fun j hj => ?_⟩
                      · rw [hqi] at hj; rw [← hc j (by omega)]; exact hz.out j hj
                      · rw [hqi, ← hc a han, ← HyE.out]; exact hy0
                      · rw [hqi, ← hc a han, ← HyE.out, Int.mul_comm]; exact Hvc.out
                      · rw [← hc j hj]; exact HvE.out j hj
                    · exact fun r c hr hr2 hc => by rw [HvO.out r c hr2 hc (by omega)]; exact hrest.out r c (by omega) hr2 hc
    · obtain rfl : n = i := by omega
      have hfin := nm_fin HD.out hrs.out hpv.out hL.out
      obtain ⟨o0, o1, o2, o3, of, oz⟩ := blk4 hrs.out.2.2.1
      obtain ⟨r0, r1, r2, r3, rf, rz⟩ := blk4 hrs.out.2.1
      obtain ⟨f0, f1, f2, f3, ff, fz⟩ := blk4 (set4_all hrs.out.2.1 (.int .i64 P) (.int .i64 (n : Int)) (.int .i64 (n : Int)) (.slice p D.length k))
      have Hfin := Lib.hid hfin
      clear hfin
      go_wp2_with fail
      exact bodyPost_ret (v := .tuple #[.agg #[.int .i64 P, .int .i64 (n : Int), .int .i64 (n : Int), .slice p D.length k], .slice p5 n k5]) (by simp [results, Try.results35, go_sem, f0, f1, f2, f3, fz]) rfl Hfin.out

end Go.Proofs.Ytapmnfakjnhlbaa
