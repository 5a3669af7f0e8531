/-
  The reference's product of matrices.
  The rank, on both sides.
  The span, on both sides.
  l1Same, slices.Equal, l7Same.
-/
import Derived.Test.YtoodgbflaaabmaaJ4
import Derived.Test.YtoodgbflaaabmaaJ5
import Derived.Test.YtoodgbflaaabmaaJ6
import Derived.Test.YtoodgbflaaabmaaJ1
namespace Go.Proofs.Ytoodgbflaaabmaa
set_option linter.all false
open Go.RowKit

/-- f 0 + .. + f (n-1) -/
def sumTo : Nat → (Nat → Int) → Int
  | 0, _ => 0
  | n + 1, f => sumTo n f + f n

theorem sumTo_bound {f : Nat → Int} {B : Int} : ∀ (n : Nat), (∀ i, i < n → 0 ≤ f i ∧ f i ≤ B) → 0 ≤ sumTo n f ∧ sumTo n f ≤ B * (n : Int)
  | 0, _ => by simp [sumTo]
  | n + 1, h => by
    have h1 := sumTo_bound n (fun i hi => h i (by omega))
    have h2 := h n (by omega)
    have e : B * ((n + 1 : Nat) : Int) = B * (n : Int) + B := by rw [Int.natCast_add, Int.mul_add]; simp
    simp only [sumTo]
    rw [e]
    omega

/-- the number at row i, column j of the product -/
def mulAt (Ca Cb : Nat) (A B : List Int) (i j : Nat) : Int := sumTo Ca fun k => A.getD (i * Ca + k) 0 * B.getD (k * Cb + j) 0
def mulRows (P : Int) (Ra Ca Cb : Nat) (A B : List Int) : List (List Int) := (List.range Ra).map fun i => (List.range Cb).map fun j => mulAt Ca Cb A B i j % P

theorem mulRows_length (P : Int) (Ra Ca Cb : Nat) (A B : List Int) : (mulRows P Ra Ca Cb A B).length = Ra := by simp [mulRows]
theorem mulRows_each (P : Int) (Ra Ca Cb : Nat) (A B : List Int) : ∀ r ∈ mulRows P Ra Ca Cb A B, r.length = Cb := by
  intro r hr
  simp only [mulRows, List.mem_map, List.mem_range] at hr
  obtain ⟨i, hi, rfl⟩ := hr
  simp
theorem mulRows_flat_length (P : Int) (Ra Ca Cb : Nat) (A B : List Int) : (mulRows P Ra Ca Cb A B).flatten.length = Ra * Cb := by
  rw [flat_length (mulRows_each P Ra Ca Cb A B), mulRows_length]
theorem mulRows_flat_getD {P : Int} {Ra Ca Cb : Nat} {A B : List Int} {t : Nat} (h : t < Ra * Cb) : (mulRows P Ra Ca Cb A B).flatten.getD t 0 = mulAt Ca Cb A B (t / Cb) (t % Cb) % P := by
  have hC : 0 < Cb := by
    rcases Nat.eq_zero_or_pos Cb with h0 | h0
    · rw [h0] at h; omega
    · exact h0
  have hd : t / Cb < Ra := Nat.div_lt_of_lt_mul (by rwa [Nat.mul_comm])
  have hm : t % Cb < Cb := Nat.mod_lt _ hC
  rw [flat_getD hC (mulRows_each P Ra Ca Cb A B)]
  simp [mulRows, List.getD_eq_getElem?_getD, hd, hm]

/-- the product, if there is one -/
def mulFits (a b : Mx) : Bool := mxOk a.P a.R a.C a.D && mxOk b.P b.R b.C b.D && decide (a.P = b.P) && decide (a.C = b.R)
def mulMx (a b : Mx) : Mx := if mulFits a b then ⟨a.P, a.R, b.C, (mulRows a.P a.R.toNat a.C.toNat b.C.toNat a.D b.D).flatten⟩ else mxZero

theorem specMatrixOk_b (P R C : Int) (d : Value) (D : List Int) (b : Bool) (hb : mxOk P R C D = b) (w : World) (h : Ints w d D) :
    Calls Try.prog 89 #[.agg #[.int .i64 P, .int .i64 R, .int .i64 C, d]] w fun e w' => e = .returned (.bool b) ∧ Below w.heap.size w w' := hb ▸ specMatrixOk_any P R C d D w h
theorem implMatrixOk_b (P R C : Int) (d : Value) (D : List Int) (b : Bool) (hb : mxOk P R C D = b) (w : World) (h : Ints w d D) :
    Calls Try.prog 52 #[.agg #[.int .i64 P, .int .i64 R, .int .i64 C, d]] w fun e w' => e = .returned (.bool b) ∧ Below w.heap.size w w' := hb ▸ implMatrixOk_any P R C d D w h

theorem mulFits_no1 {a b : Mx} (h : mxOk a.P a.R a.C a.D = false) : mulFits a b = false := by simp [mulFits, h]
theorem mulFits_no2 {a b : Mx} (h : mxOk b.P b.R b.C b.D = false) : mulFits a b = false := by simp [mulFits, h]
theorem mulFits_no3 {a b : Mx} (h : a.P ≠ b.P) : mulFits a b = false := by simp [mulFits, h]
theorem mulFits_no4 {a b : Mx} (h : a.C ≠ b.R) : mulFits a b = false := by simp [mulFits, h]
theorem mulMx_no {a b : Mx} (h : mulFits a b = false) : mulMx a b = mxZero := by simp [mulMx, h]

/-- what a matrix that is right says of its numbers -/
theorem mxOk_facts {P R C : Int} {D : List Int} (h : mxOk P R C D = true) : ∃ r c : Nat, R = r ∧ C = c ∧ r ≤ 7 ∧ 1 ≤ c ∧ c ≤ 7 ∧ D.length = r * c ∧ (∀ x ∈ D, 0 ≤ x ∧ x < P) ∧ 2 ≤ P ∧ P ≤ 7 ∧ primeOk P = true := by
  obtain ⟨h1, ⟨h2, h3⟩, ⟨h4, h5⟩, h6, h7⟩ := of_decide_eq_true h
  obtain ⟨r, rfl⟩ := Int.eq_ofNat_of_zero_le h2
  obtain ⟨c, rfl⟩ := Int.eq_ofNat_of_zero_le (show (0 : Int) ≤ C by omega)
  have := primeOk_range h1
  refine ⟨r, c, rfl, rfl, by omega, by omega, by omega, ?_, h7, this.1, this.2, h1⟩
  rw [← Int.natCast_mul] at h6
  exact Int.ofNat.inj h6

/-- the two boxes of the arguments and the block of the result, as the walks of functions of two matrices meet them -/
def Boxes3 (w : World) (T Tz : TypeId) (a b : Mx) (da db : Value) (wr : World) : Prop :=
  wr.heap[w.heap.size]? = some (.cells #[.int .i64 a.P, .int .i64 a.R, .int .i64 a.C, da] T (0, 0)) ∧
  wr.heap[w.heap.size + 1]? = some (.cells #[.int .i64 b.P, .int .i64 b.R, .int .i64 b.C, db] T (0, 0)) ∧
  wr.heap[w.heap.size + 1 + 1]? = some (.cells #[.int .i64 0, .int .i64 0, .int .i64 0, .slice none 0 0] Tz (0, 0)) ∧ Below w.heap.size w wr

theorem boxes3_start (w : World) (T Tz : TypeId) (a b : Mx) (da db : Value) : Boxes3 w T Tz a b da db
    (((w.alloc (.cells #[.int .i64 a.P, .int .i64 a.R, .int .i64 a.C, da] T)).alloc (.cells #[.int .i64 b.P, .int .i64 b.R, .int .i64 b.C, db] T)).alloc (.cells #[.int .i64 0, .int .i64 0, .int .i64 0, .slice none 0 0] Tz)) := by
  refine ⟨?_, ?_, ?_, below_alloc3 _ _ _ _⟩
  · rw [heap_alloc_low _ _ (by simp; omega), heap_alloc_low _ _ (by simp)]; exact heap_alloc_top _ _
  · rw [heap_alloc_low _ _ (by simp)]; exact heap_alloc_at _ _ (by simp)
  · exact heap_alloc_at _ _ (by simp)
theorem Boxes3.later {w : World} {T Tz : TypeId} {a b : Mx} {da db : Value} {wr wx : World} (h : Boxes3 w T Tz a b da db wr) (hb : Below wr.heap.size wr wx) : Boxes3 w T Tz a b da db wx :=
  ⟨blk_later h.1 hb, blk_later h.2.1 hb, blk_later h.2.2.1 hb, h.2.2.2.trans (hb.mono h.2.2.2.size)⟩

/-- what holds in the loops of the product: the first T numbers of it are laid -/
def MulI (w : World) (M Ti : TypeId) (a b : Mx) (da db : Value) (ra ca cb q g N T : Nat) (wr : World) : Prop :=
  Boxes3 w M M a b da db wr ∧ wr.heap[q]? = some (.cells #[.int .i64 a.P, .int .i64 (ra : Int), .int .i64 (cb : Int), .slice (some ⟨g, 0, none⟩) N N] M (0, 0)) ∧
  wr.rowIs g Ti N (fun t => .int .i64 (if t < T then mulAt ca cb a.D b.D (t / cb) (t % cb) % a.P else 0))

theorem MulI.later {w : World} {M Ti : TypeId} {a b : Mx} {da db : Value} {ra ca cb q g N T : Nat} {wr wx : World} (h : MulI w M Ti a b da db ra ca cb q g N T wr) (hb : Below wr.heap.size wr wx) : MulI w M Ti a b da db ra ca cb q g N T wx :=
  ⟨h.1.later hb, blk_later h.2.1 hb, h.2.2.of_block (hb.block _ h.2.2.lt)⟩
theorem MulI.set {w : World} {M Ti : TypeId} {a b : Mx} {da db : Value} {ra ca cb q g N T i j : Nat} {wr : World} (h : MulI w M Ti a b da db ra ca cb q g N T wr) (hq : q ≠ g) (hg : w.heap.size + 1 + 1 < g) (hj : j < cb) (hT : T = i * cb + j)
    (x : Int) (hx : x = mulAt ca cb a.D b.D i j % a.P) : MulI w M Ti a b da db ra ca cb q g N (T + 1) (wr.setCell ⟨g, T, none⟩ (.int .i64 x)) := by
  obtain ⟨⟨h1, h2, h3, h4⟩, h5, h6⟩ := h
  refine ⟨⟨?_, ?_, ?_, h4.setCell (by show w.heap.size ≤ g; omega) _⟩, ?_, (h6.set T _).congr fun t ht => ?_⟩
  · rw [Below.heap_setCell _ _ _ _ (by show _ ≠ g; omega)]; exact h1
  · rw [Below.heap_setCell _ _ _ _ (by show _ ≠ g; omega)]; exact h2
  · rw [Below.heap_setCell _ _ _ _ (by show _ ≠ g; omega)]; exact h3
  · rw [Below.heap_setCell _ _ _ _ (by show _ ≠ g; omega)]; exact h5
  · obtain ⟨e1, e2⟩ := div_at (k := i) hj
    by_cases e : t = T
    · subst e; simp only [if_true, show t < t + 1 by omega]; rw [hT, e1, e2, hx]
    · simp only [e, if_false]
      by_cases e3 : t < T
      · simp only [e3, if_true, show t < T + 1 by omega]
      · simp only [e3, if_false, show ¬ t < T + 1 by omega]

set_option maxRecDepth 100000 in
set_option maxHeartbeats 4000000 in
theorem specMul_yes (a b : Mx) (da db : Value) (w : World) (ha : Ints w da a.D) (hb : Ints w db b.D) (h1 : mxOk a.P a.R a.C a.D = true) (h2 : mxOk b.P b.R b.C b.D = true) (h3 : a.P = b.P) (h4 : a.C = b.R) :
    Calls Try.prog 75 #[.agg #[.int .i64 a.P, .int .i64 a.R, .int .i64 a.C, da], .agg #[.int .i64 b.P, .int .i64 b.R, .int .i64 b.C, db]] w
      (RetMB w (mulMx a b) (mulFits a b)) := by
  have Ha := Lib.hid ha
  have Hb := Lib.hid hb
  obtain ⟨pa, ka, rfl, ⟨la, ma⟩, _⟩ := ha
  obtain ⟨pb, kb, rfl, ⟨lb, mb⟩, _⟩ := hb
  unfold maxLen at ma mb
  have Hst := Lib.hid (boxes3_start w 34 34 a b (.slice pa a.D.length ka) (.slice pb b.D.length kb))
  have hf : mulFits a b = true := by unfold mulFits; rw [h1, h2, decide_eq_true h3, decide_eq_true h4]; rfl
  have hm : mulMx a b = ⟨a.P, a.R, b.C, (mulRows a.P a.R.toNat a.C.toNat b.C.toNat a.D b.D).flatten⟩ := by simp [mulMx, hf]
  rw [hf, hm]
  have H1 := Lib.hid h1
  have H2 := Lib.hid h2
  have h3' : (a.P != b.P) = false := by simp [h3]
  have h4' : (a.C != b.R) = false := by simp [h4]
  obtain ⟨aP, aR, aC, A⟩ := a
  obtain ⟨bP, bR, bC, B⟩ := b
  simp only at *
  subst h3 h4
  obtain ⟨ra, ca, rfl, rfl, hra, hca0, hca, hlA, hA, hP2, hP7, hpr⟩ := mxOk_facts h1
  obtain ⟨_, cb, e1, rfl, hrb, hcb0, hcb, hlB, hB, _, _, _⟩ := mxOk_facts h2
  have e1 := Int.ofNat.inj e1
  subst e1
  simp only [Int.toNat_natCast]
  have HA := Lib.hid hA
  have HB := Lib.hid hB
  have hrc : ra * cb ≤ 7 * 7 := Nat.mul_le_mul hra hcb
  have hrca : ra * ca ≤ 7 * 7 := Nat.mul_le_mul hra hca
  have hrcb : ca * cb ≤ 7 * 7 := Nat.mul_le_mul hca hcb
  have HlA := Lib.hid hlA
  have HlB := Lib.hid hlB
  clear h1 h2 hf hm hA hB hlA hlB hpr
  go_enter Try.func75, Try.ntmps75
  go_wp2_with fail
  refine (specMatrixOk_b _ _ _ _ _ _ H1.out _ (Ha.out.below (below_alloc3 _ _ _ _))).mono ?_
  rintro e w1 ⟨rfl, hb1⟩
  have Hs := Lib.hid (Hst.out.later hb1)
  have hBl := Hs.out.2.2.2
  obtain ⟨c10, c11, c12, c13, c1f, hz1⟩ := blk4 Hs.out.2.1
  clear hb1
  go_wp2_with fail
  refine (specMatrixOk_b _ _ _ _ _ _ H2.out _ (Hb.out.below hBl)).mono ?_
  rintro e w2 ⟨rfl, hb2⟩
  have Hs2 := Lib.hid (Hs.out.later hb2)
  clear hb2 c10 c11 c12 c13 c1f hz1 hBl Hs
  obtain ⟨d00, d01, d02, d03, d0f, dz0⟩ := blk4 Hs2.out.1
  obtain ⟨d10, d11, d12, d13, d1f, dz1⟩ := blk4 Hs2.out.2.1
  go_wp2_with fail
  obtain ⟨N, hN, hwr, hwk⟩ := mul_named ra cb (by omega)
  have Hwr := Lib.hid hwr
  have Hwk := Lib.hid hwk
  clear hwr hwk
  have hN49 : N ≤ 49 := by omega
  have HN := Lib.hid hN
  have hmk := run_make_row' (P := Try.prog) 24 3 (.int .i64 0) 8 Try.underlying24 info_int rfl .i64 .i64 N (by omega) (by omega)
  have hwr := Hwr.out
  have hwk := Hwk.out
  clear hN h3' h4'
  go_cut [6] (fun s6 wc => ∃ q g, s6 = .pointer (some ⟨q, 0, none⟩) ∧ w2.heap.size ≤ q ∧ w2.heap.size ≤ g ∧ q ≠ g ∧
    wc.heap[q]? = some (.cells #[.int .i64 aP, .int .i64 (ra : Int), .int .i64 (cb : Int), .slice (some ⟨g, 0, none⟩) N N] 34) ∧ wc.rowIs g 3 N (fun _ => .int .i64 0) ∧ Below w2.heap.size w2 wc)
  case first =>
    go_region_held3 (fun w' => w'.cell? ⟨w.heap.size, 0, none⟩ = some (.int .i64 aP) ∧ w'.cell? ⟨w.heap.size, 1, none⟩ = some (.int .i64 (ra : Int)) ∧ w'.cell? ⟨w.heap.size + 1, 2, none⟩ = some (.int .i64 (cb : Int))) (first | go_keep) (first | fail)
    all_goals go_wp2_with fail
    all_goals go_meet
    all_goals clear hmk hwr hwk
    all_goals
      have e3 := World.rowIs_made w2 (.int .i64 0) N 3
    · refine ⟨w2.heap.size + 1, w2.heap.size, rfl, ?_, ?_, ?_, heap_alloc_at _ _ (by simp), (e3.alloc _).drew, (below_alloc2 w2 _ _).drew⟩
      · omega
      · omega
      · omega
    · refine ⟨w2.heap.size, w2.heap.size + 1, rfl, ?_, ?_, ?_, ?_, ?_, (below_alloc2 w2 _ _).drew⟩
      · omega
      · omega
      · omega
      · exact (heap_alloc_low _ _ (by simp)).trans (heap_alloc_top _ _)
      · have e4 := World.rowIs_made (w2.alloc (.cells #[.int .i64 aP, .int .i64 (ra : Int), .int .i64 (cb : Int), .slice (some ⟨w2.heap.size + 1, 0, none⟩) N N] 34)) (.int .i64 0) N 3
        simp only [size_alloc] at e4
        exact e4.drew
  case rest =>
    obtain ⟨q, g, rfl, hq2, hg2, hqg, hq, hg, hbc⟩ := hcut
    have Hs3 := Lib.hid (Hs2.out.later hbc)
    have hws := Hs2.out.2.2.2.size
    have hz3 := blk_lt Hs2.out.2.2.1
    have Hq := Lib.hid hq
    have Hg := Lib.hid hg
    clear hmk hwr hwk d00 d01 d02 d03 d0f dz0 d10 d11 d12 d13 d1f dz1 hbc hq hg Hs2
    have hg3 : w.heap.size + 1 + 1 < g := by omega
    have hM0 : MulI w 34 3 ⟨aP, (ra : Int), (ca : Int), A⟩ ⟨aP, (ca : Int), (cb : Int), B⟩ (.slice pa A.length ka) (.slice pb B.length kb) ra ca cb q g N 0 wc :=
      ⟨Hs3.out, Hq.out, Hg.out.congr fun t _ => by simp⟩
    have HM0 := Lib.hid hM0
    clear hM0 Hs3 Hq Hg
    go_wp2_with fail
    go_loopg [7] ra (fun gh s7 wr => ∃ i : Nat, i ≤ ra ∧ gh = ra - i ∧ s7 = .int .i64 i ∧ MulI w 34 3 ⟨aP, (ra : Int), (ca : Int), A⟩ ⟨aP, (ca : Int), (cb : Int), B⟩ (.slice pa A.length ka) (.slice pb B.length kb) ra ca cb q g N (i * cb) wr)
    case atStart => exact ⟨0, Nat.zero_le _, rfl, rfl, by rw [Nat.zero_mul]; exact HM0.out⟩
    case round =>
      obtain ⟨i, hi, rfl, rfl, hM⟩ := hrel
      clear HM0
      obtain ⟨d00, d01, d02, d03, d0f, dz0⟩ := blk4 hM.1.1
      have HM := Lib.hid hM
      clear hM
      by_cases hlt : i < ra
      · have hiN := mul_le_of (C := cb) hlt
        rw [Nat.add_mul, Nat.one_mul, ← HN.out] at hiN
        go_wp2_with fail
        clear d00 d01 d02 d03 d0f dz0
        go_loopg [8] cb (fun gh s8 wr => ∃ j : Nat, j ≤ cb ∧ gh = cb - j ∧ s8 = .int .i64 j ∧ MulI w 34 3 ⟨aP, (ra : Int), (ca : Int), A⟩ ⟨aP, (ca : Int), (cb : Int), B⟩ (.slice pa A.length ka) (.slice pb B.length kb) ra ca cb q g N (i * cb + j) wr)
        case atStart => exact ⟨0, Nat.zero_le _, rfl, rfl, HM.out⟩
        case round =>
          obtain ⟨j, hj, rfl, rfl, hM⟩ := hrel
          clear HM
          obtain ⟨d10, d11, d12, d13, d1f, dz1⟩ := blk4 hM.1.2.1
          have HM := Lib.hid hM
          clear hM
          by_cases hltj : j < cb
          · go_wp2_with fail
            clear d10 d11 d12 d13 d1f dz1
            go_loopg [9, 10] ca (fun gh s9 s10 wr => ∃ k : Nat, k ≤ ca ∧ gh = ca - k ∧ s10 = .int .i64 k ∧ s9 = .int .i64 (sumTo k fun k => A.getD (i * ca + k) 0 * B.getD (k * cb + j) 0) ∧ MulI w 34 3 ⟨aP, (ra : Int), (ca : Int), A⟩ ⟨aP, (ca : Int), (cb : Int), B⟩ (.slice pa A.length ka) (.slice pb B.length kb) ra ca cb q g N (i * cb + j) wr)
            case atStart => exact ⟨0, Nat.zero_le _, rfl, rfl, rfl, HM.out⟩
            case round =>
              obtain ⟨k, hk, rfl, rfl, rfl, hM⟩ := hrel
              clear HM
              obtain ⟨d00, d01, d02, d03, d0f, dz0⟩ := blk4 hM.1.1
              have HM := Lib.hid hM
              clear hM
              have hsb := sumTo_bound (f := fun k => A.getD (i * ca + k) 0 * B.getD (k * cb + j) 0) (B := 49) k (fun t _ => by
                have u1 := getD_range HA.out (by omega) (i * ca + t)
                have u2 := getD_range HB.out (by omega) (t * cb + j)
                exact mul_range (a := 7) (b := 7) u1.1 (by omega) u2.1 (by omega))
              have hsucc : sumTo (k + 1) (fun k => A.getD (i * ca + k) 0 * B.getD (k * cb + j) 0) = sumTo k (fun k => A.getD (i * ca + k) 0 * B.getD (k * cb + j) 0) + A.getD (i * ca + k) 0 * B.getD (k * cb + j) 0 := rfl
              have hfull : k = ca → sumTo k (fun k => A.getD (i * ca + k) 0 * B.getD (k * cb + j) 0) = mulAt ca cb A B i j := fun e => by subst e; rfl
              have Hsucc := Lib.hid hsucc
              have Hfull := Lib.hid hfull
              clear hsucc hfull
              generalize hs : sumTo k (fun k => A.getD (i * ca + k) 0 * B.getD (k * cb + j) 0) = s at hsb Hsucc Hfull ⊢
              clear hs
              by_cases hltk : k < ca
              · have u1 := getD_range HA.out (by omega) (i * ca + k)
                have u2 := getD_range HB.out (by omega) (k * cb + j)
                have hik : i * ca + k < A.length := by
                  have := mul_le_of (C := ca) hlt
                  rw [Nat.add_mul, Nat.one_mul, ← HlA.out] at this
                  omega
                have hkj : k * cb + j < B.length := by
                  have := mul_le_of (C := cb) hltk
                  rw [Nat.add_mul, Nat.one_mul, ← HlB.out] at this
                  omega
                have hA6 : A.length ≤ 1000000 := by have := HlA.out; omega
                have hB6 : B.length ≤ 1000000 := by have := HlB.out; omega
                have cA := fun (W : World) (h : Ints W (.slice pa A.length ka) A) => l7At_any aP ra ca i k _ A W h hik hA6
                have cB := fun (W : World) (h : Ints W (.slice pb B.length kb) B) => l7At_any aP ca cb k j _ B W h hkj hB6
                generalize hy : A.getD (i * ca + k) 0 = y at u1 cA Hsucc
                generalize hz : B.getD (k * cb + j) 0 = z at u2 cB Hsucc
                have hm := mul_range (a := 7) (b := 7) u1.1 (by omega) u2.1 (by omega)
                have b1 : -1000000000000000000 ≤ y * z := by omega
                have b2 : y * z ≤ 1000000000000000000 := by omega
                have b3 : -1000000000000000000 ≤ s + y * z := by omega
                have b4 : s + y * z ≤ 1000000000000000000 := by omega
                have CA := Lib.hid cA
                have CB := Lib.hid cB
                have HaW := Lib.hid (Ha.out.below HM.out.1.2.2.2)
                have HbW := Lib.hid (Hb.out.below HM.out.1.2.2.2)
                obtain ⟨d10, d11, d12, d13, d1f, dz1⟩ := blk4 HM.out.1.2.1
                clear cA cB hy hz hik hkj hA6 hB6 u1 u2 hm hsb
                go_wp2_with fail
                have f1 := k64 b1 b2
                have f2 := k64 b3 b4
                clear b1 b2 b3 b4
                go_region_held3 (fun w' => (w'.cell? ⟨w.heap.size, 0, none⟩ = some (.int .i64 aP) ∧ w'.cell? ⟨w.heap.size, 1, none⟩ = some (.int .i64 (ra : Int)) ∧ w'.cell? ⟨w.heap.size, 2, none⟩ = some (.int .i64 (ca : Int)) ∧ w'.cell? ⟨w.heap.size, 3, none⟩ = some (.slice pa A.length ka) ∧
                    w'.cell? ⟨w.heap.size + 1, 0, none⟩ = some (.int .i64 aP) ∧ w'.cell? ⟨w.heap.size + 1, 1, none⟩ = some (.int .i64 (ca : Int)) ∧ w'.cell? ⟨w.heap.size + 1, 2, none⟩ = some (.int .i64 (cb : Int)) ∧ w'.cell? ⟨w.heap.size + 1, 3, none⟩ = some (.slice pb B.length kb)) ∧ Below wr.heap.size wr w')
                  (first
                    | exact ⟨⟨d00, d01, d02, d03, d10, d11, d12, d13⟩, (Below.refl _ _).drew⟩
                    | exact keep8 hb1 (by assumption))
                  (first
                    | (go_at_call_of 90 (Value.slice pa A.length ka); refine (CA.out _ (held_ints HaW.out (by assumption))).mono ?_; rintro e w' ⟨rfl, hb1⟩)
                    | (go_at_call_of 90 (Value.slice pb B.length kb); refine (CB.out _ (held_ints HbW.out (by assumption))).mono ?_; rintro e w' ⟨rfl, hb1⟩))
                have hbw : Below wr.heap.size wr w' := held_below (by assumption)
                clear f1 f2 d00 d01 d02 d03 d0f dz0 d10 d11 d12 d13 d1f dz1
                go_wp2_with fail
                go_roundg (ca - (k + 1))
                case measure => omega
                case rel => exact ⟨k + 1, by omega, rfl, by go_num, by rw [Hsucc.out], HM.out.later hbw⟩
              · have hs2 := Hfull.out (by omega)
                obtain ⟨K, hK, hr1, hr2⟩ := mul_named i cb (by omega)
                have Hr1 := Lib.hid hr1
                have Hr2 := Lib.hid hr2
                clear hr1 hr2
                have hKj : K + j < N := by omega
                have b1 : -1000000000000000000 ≤ (K : Int) + (j : Int) := by omega
                have b2 : (K : Int) + (j : Int) ≤ 1000000000000000000 := by omega
                have hi1 : (0 : Int) ≤ (K : Int) + j := by omega
                have hi2 : (K : Int) + (j : Int) < (N : Int) := by omega
                have hi3 : ((K : Int) + (j : Int)).toNat = K + j := by omega
                have hsnn : 0 ≤ s := hsb.1
                have hp0 : ¬ aP = 0 := by omega
                obtain ⟨d10, d11, d12, d13, d1f, dz1⟩ := blk4 HM.out.1.2.1
                obtain ⟨q0, q1, q2, q3, qf, qz⟩ := blk4 HM.out.2.1
                obtain ⟨z, c3⟩ : ∃ z, wr.cell? ⟨g, K + j, none⟩ = some (.int .i64 z) := ⟨_, HM.out.2.2.cell hKj⟩
                have c4 := HM.out.2.2.frozen (K + j)
                have HK := Lib.hid hK
                have Hs := Lib.hid hs2
                clear hsb hK hs2
                go_wp2_with fail
                have f1 := Hr1.out
                have f2 := Hr2.out
                have f3 := w64 b1 b2
                have f4 := k64 b1 b2
                clear b1 b2
                go_still_tail 13, (by kernel_rfl)
                change wpList _ _ _ _ _ wr.drew
                clear f1 f2 f3 f4
                go_wp2_with fail
                clear d00 d01 d02 d03 d0f dz0 d10 d11 d12 d13 d1f dz1 q0 q1 q2 q3 qf qz c3 c4
                go_roundg (cb - (j + 1))
                case measure => omega
                case rel =>
                  refine ⟨j + 1, by omega, rfl, by go_num, ?_⟩
                  have hset := HM.out.set hqg hg3 hltj rfl (s % aP) (by rw [Hs.out])
                  rw [← HK.out] at hset
                  rw [← Nat.add_assoc, ← HK.out]
                  exact hset.later ((Below.refl _ _).drew)
          · obtain rfl : j = cb := by omega
            go_wp2_with fail
            clear d10 d11 d12 d13 d1f dz1
            go_roundg (ra - (i + 1))
            case measure => omega
            case rel => exact ⟨i + 1, by omega, rfl, by go_num, by rw [Nat.add_mul, Nat.one_mul]; exact HM.out⟩
      · obtain rfl : i = ra := by omega
        obtain ⟨q0, q1, q2, q3, qf, qz⟩ := blk4 HM.out.2.1
        obtain ⟨c00, c01, c02, c03, c0f, hz0⟩ := blk4 HM.out.1.2.2.1
        have hown : OwnI 3 wr (w.heap.size + 1 + 1 + 1) wr.heap.size (.slice (some ⟨g, 0, none⟩) N N) (mulRows aP i ca cb A B).flatten := by
          have hl : (mulRows aP i ca cb A B).flatten.length = N := by rw [mulRows_flat_length]; exact HN.out.symm
          refine OwnF.ints ?_
          rw [hl]
          refine OwnF.mk' HM.out.2.2 (by omega) HM.out.2.2.lt (Nat.le_refl _) (by unfold maxLen; omega) fun t ht => ?_
          have ht' : t < i * cb := by rw [← HN.out]; exact ht
          rw [iv, mulRows_flat_getD ht']
          simp [ht']
        have Hown := Lib.hid hown
        clear hown
        go_wp2_with fail
        refine bodyPost_ret (v := .tuple #[.agg #[.int .i64 aP, .int .i64 (i : Int), .int .i64 (cb : Int), .slice (some ⟨g, 0, none⟩) N N], .bool true]) (by simp [results, Try.results75, go_sem, c00, c01, c02, c03, hz0]) rfl ⟨_, rfl, ?_, ?_⟩
        · exact (own_set4 Hown.out (.inl (by omega)) _ _ _ _).mono (by omega) (by simp only [size_setCell]; omega)
        · exact below_set4 HM.out.1.2.2.2 (by omega) _ _ _ _

set_option maxRecDepth 100000 in
set_option maxHeartbeats 4000000 in
theorem specMul_any (a b : Mx) (da db : Value) (w : World) (ha : Ints w da a.D) (hb : Ints w db b.D) :
    Calls Try.prog 75 #[.agg #[.int .i64 a.P, .int .i64 a.R, .int .i64 a.C, da], .agg #[.int .i64 b.P, .int .i64 b.R, .int .i64 b.C, db]] w
      (RetMB w (mulMx a b) (mulFits a b)) := by
  have Ha := Lib.hid ha
  have Hb := Lib.hid hb
  obtain ⟨pa, ka, rfl, ⟨la, ma⟩, _⟩ := ha
  obtain ⟨pb, kb, rfl, ⟨lb, mb⟩, _⟩ := hb
  unfold maxLen at ma mb
  have Hst := Lib.hid (boxes3_start w 34 34 a b (.slice pa a.D.length ka) (.slice pb b.D.length kb))
  cases h1 : mxOk a.P a.R a.C a.D with
  | false =>
    have hf := mulFits_no1 (b := b) h1
    rw [hf, mulMx_no hf]
    have H1 := Lib.hid h1
    clear h1 hf
    go_enter Try.func75, Try.ntmps75
    go_wp2_with fail
    refine (specMatrixOk_b _ _ _ _ _ _ H1.out _ (Ha.out.below (below_alloc3 _ _ _ _))).mono ?_
    rintro e w1 ⟨rfl, hb1⟩
    have Hs := Lib.hid (Hst.out.later hb1)
    clear hb1
    obtain ⟨c00, c01, c02, c03, c0f, hz0⟩ := blk4 Hs.out.2.2.1
    go_wp2_with fail
    refine bodyPost_ret (v := .tuple #[.agg #[.int .i64 0, .int .i64 0, .int .i64 0, .slice none 0 0], .bool false]) (by simp [results, Try.results75, go_sem, c00, c01, c02, c03, hz0]) rfl ⟨_, rfl, ?_, ?_⟩
    · exact ⟨World.ownsRow_nil _ _ _ _, fun k hk => by simp [Value.ownBlock] at hk⟩
    · exact below_set4 Hs.out.2.2.2 (by omega) _ _ _ _
  | true =>
    cases h2 : mxOk b.P b.R b.C b.D with
    | false =>
      have hf := mulFits_no2 (a := a) h2
      rw [hf, mulMx_no hf]
      have H1 := Lib.hid h1
      have H2 := Lib.hid h2
      clear h1 h2 hf
      go_enter Try.func75, Try.ntmps75
      go_wp2_with fail
      refine (specMatrixOk_b _ _ _ _ _ _ H1.out _ (Ha.out.below (below_alloc3 _ _ _ _))).mono ?_
      rintro e w1 ⟨rfl, hb1⟩
      have Hs := Lib.hid (Hst.out.later hb1)
      have hB := Hs.out.2.2.2
      obtain ⟨c10, c11, c12, c13, c1f, hz1⟩ := blk4 Hs.out.2.1
      clear hb1
      go_wp2_with fail
      refine (specMatrixOk_b _ _ _ _ _ _ H2.out _ (Hb.out.below hB)).mono ?_
      rintro e w2 ⟨rfl, hb2⟩
      have Hs2 := Lib.hid (Hs.out.later hb2)
      clear hb2 c10 c11 c12 c13 c1f hz1 hB
      obtain ⟨c00, c01, c02, c03, c0f, hz0⟩ := blk4 Hs2.out.2.2.1
      go_wp2_with fail
      refine bodyPost_ret (v := .tuple #[.agg #[.int .i64 0, .int .i64 0, .int .i64 0, .slice none 0 0], .bool false]) (by simp [results, Try.results75, go_sem, c00, c01, c02, c03, hz0]) rfl ⟨_, rfl, ?_, ?_⟩
      · exact ⟨World.ownsRow_nil _ _ _ _, fun k hk => by simp [Value.ownBlock] at hk⟩
      · exact below_set4 Hs2.out.2.2.2 (by omega) _ _ _ _
    | true =>
      have H1 := Lib.hid h1
      have H2 := Lib.hid h2
      by_cases h3 : a.P = b.P
      case neg =>
        have hf := mulFits_no3 h3
        rw [hf, mulMx_no hf]
        have h3' : (a.P != b.P) = true := by simp [h3]
        clear h1 h2 hf h3
        go_enter Try.func75, Try.ntmps75
        go_wp2_with fail
        refine (specMatrixOk_b _ _ _ _ _ _ H1.out _ (Ha.out.below (below_alloc3 _ _ _ _))).mono ?_
        rintro e w1 ⟨rfl, hb1⟩
        have Hs := Lib.hid (Hst.out.later hb1)
        have hB := Hs.out.2.2.2
        obtain ⟨c10, c11, c12, c13, c1f, hz1⟩ := blk4 Hs.out.2.1
        clear hb1
        go_wp2_with fail
        refine (specMatrixOk_b _ _ _ _ _ _ H2.out _ (Hb.out.below hB)).mono ?_
        rintro e w2 ⟨rfl, hb2⟩
        have Hs2 := Lib.hid (Hs.out.later hb2)
        clear hb2 c10 c11 c12 c13 c1f hz1 hB
        obtain ⟨d00, d01, d02, d03, d0f, dz0⟩ := blk4 Hs2.out.1
        obtain ⟨d10, d11, d12, d13, d1f, dz1⟩ := blk4 Hs2.out.2.1
        obtain ⟨c00, c01, c02, c03, c0f, hz0⟩ := blk4 Hs2.out.2.2.1
        go_wp2_with fail
        refine bodyPost_ret (v := .tuple #[.agg #[.int .i64 0, .int .i64 0, .int .i64 0, .slice none 0 0], .bool false]) (by simp [results, Try.results75, go_sem, c00, c01, c02, c03, hz0]) rfl ⟨_, rfl, ?_, ?_⟩
        · exact ⟨World.ownsRow_nil _ _ _ _, fun k hk => by simp [Value.ownBlock] at hk⟩
        · exact below_set4 Hs2.out.2.2.2 (by omega) _ _ _ _
      by_cases h4 : a.C = b.R
      case neg =>
        have hf := mulFits_no4 h4
        rw [hf, mulMx_no hf]
        have h3' : (a.P != b.P) = false := by simp [h3]
        have h4' : (a.C != b.R) = true := by simp [h4]
        clear h1 h2 hf h3 h4
        go_enter Try.func75, Try.ntmps75
        go_wp2_with fail
        refine (specMatrixOk_b _ _ _ _ _ _ H1.out _ (Ha.out.below (below_alloc3 _ _ _ _))).mono ?_
        rintro e w1 ⟨rfl, hb1⟩
        have Hs := Lib.hid (Hst.out.later hb1)
        have hB := Hs.out.2.2.2
        obtain ⟨c10, c11, c12, c13, c1f, hz1⟩ := blk4 Hs.out.2.1
        clear hb1
        go_wp2_with fail
        refine (specMatrixOk_b _ _ _ _ _ _ H2.out _ (Hb.out.below hB)).mono ?_
        rintro e w2 ⟨rfl, hb2⟩
        have Hs2 := Lib.hid (Hs.out.later hb2)
        clear hb2 c10 c11 c12 c13 c1f hz1 hB
        obtain ⟨d00, d01, d02, d03, d0f, dz0⟩ := blk4 Hs2.out.1
        obtain ⟨d10, d11, d12, d13, d1f, dz1⟩ := blk4 Hs2.out.2.1
        obtain ⟨c00, c01, c02, c03, c0f, hz0⟩ := blk4 Hs2.out.2.2.1
        go_wp2_with fail
        refine bodyPost_ret (v := .tuple #[.agg #[.int .i64 0, .int .i64 0, .int .i64 0, .slice none 0 0], .bool false]) (by simp [results, Try.results75, go_sem, c00, c01, c02, c03, hz0]) rfl ⟨_, rfl, ?_, ?_⟩
        · exact ⟨World.ownsRow_nil _ _ _ _, fun k hk => by simp [Value.ownBlock] at hk⟩
        · exact below_set4 Hs2.out.2.2.2 (by omega) _ _ _ _
      exact specMul_yes a b _ _ w Ha.out Hb.out h1 h2 h3 h4

theorem mulMx_len (a b : Mx) : (mulMx a b).D.length ≤ 1000000 := by
  unfold mulMx
  split
  · rename_i h
    unfold mulFits at h
    simp only [Bool.and_eq_true] at h
    obtain ⟨ra, ca, e1, e2, h1, _, h2, _⟩ := mxOk_facts h.1.1.1
    obtain ⟨rb, cb, e3, e4, h3, _, h4, _⟩ := mxOk_facts h.1.1.2
    show (mulRows _ _ _ _ _ _).flatten.length ≤ _
    rw [mulRows_flat_length, e1, e4]
    have := Nat.mul_le_mul h1 h4
    simp only [Int.toNat_natCast]
    omega
  · simp [mxZero]

end Go.Proofs.Ytoodgbflaaabmaa

namespace Go.Proofs.Ytoodgbflaaabmaa
set_option linter.all false
open Go.RowKit

/-- the reduced form of what R rows span: n rows M with the columns q -/
def IsRed (P : Int) (C R : Nat) (M0 : Nat → Nat → Int) (n : Nat) (M : Nat → Nat → Int) (q : Nat → Nat) : Prop :=
  Red P C n M q ∧ (∀ i k, i < k → k < n → q i < q k) ∧ (∀ i c, i < n → c < C → 0 ≤ M i c ∧ M i c < P) ∧ SameSp P C R M0 n M
theorem IsRed.one {P : Int} {C R n n' : Nat} {M0 M M' : Nat → Nat → Int} {q q' : Nat → Nat} (hP : 2 ≤ P) (h : IsRed P C R M0 n M q) (h' : IsRed P C R M0 n' M' q') :
    n = n' ∧ (∀ i, i < n → q i = q' i) ∧ ∀ i j, i < n → j < C → M i j = M' i j :=
  red_unique hP h.1 h'.1 h.2.1 h'.2.1 (h.2.2.2.symm.trans h'.2.2.2) h.2.2.1 h'.2.2.1
def HasRank (P : Int) (C R : Nat) (M0 : Nat → Nat → Int) (n : Nat) : Prop := ∃ M q, IsRed P C R M0 n M q
theorem HasRank.one {P : Int} {C R n n' : Nat} {M0 : Nat → Nat → Int} (hP : 2 ≤ P) (h : HasRank P C R M0 n) (h' : HasRank P C R M0 n') : n = n' := by
  obtain ⟨M, q, h⟩ := h
  obtain ⟨M', q', h'⟩ := h'
  exact (h.one hP h').1
/-- from rows of lists to what lies flat -/
theorem rows_flat {P : Int} {C R : Nat} {D : List Int} : SameSp P C R (mf C fun t => D.getD t 0) (rowsOf R C D).length (mt (rowsOf R C D)) := by
  rw [rowsOf_length]
  refine SameSp.of_eqv fun i hi => .of_eq fun c hc => ?_
  unfold mf mt
  rw [rowsOf_getD hi, rowAt_getD hc]
theorem rowsOf_ok {P : Int} {C R : Nat} {D : List Int} (h : D.length = R * C) (hr : ∀ t, 0 ≤ D.getD t 0 ∧ D.getD t 0 < P) : RowsOk P C (rowsOf R C D) := fun i hi => by
  rw [rowsOf_length] at hi
  have hl : (rowAt C D i).length = C := rowAt_length (by rw [h]; exact mul_le_of hi)
  rw [rowsOf_getD hi]
  refine ⟨hl, fun j => ?_⟩
  by_cases hj : j < C
  · rw [rowAt_getD hj]; exact hr _
  · rw [getD_out (by omega)]
    have := hr 0
    omega

/-- what RankOf returns -/
def RkIs (P R C : Int) (D : List Int) (r : Int) : Prop :=
  if mxOk P R C D = true then ∃ n : Nat, r = n ∧ (n : Int) ≤ R ∧ HasRank P C.toNat R.toNat (mf C.toNat fun t => D.getD t 0) n else r = -1
theorem RkIs.one {P R C : Int} {D : List Int} {r r' : Int} (h : RkIs P R C D r) (h' : RkIs P R C D r') : r = r' := by
  unfold RkIs at h h'
  by_cases e : mxOk P R C D = true
  · rw [if_pos e] at h h'
    obtain ⟨n, rfl, _, h⟩ := h
    obtain ⟨n', rfl, _, h'⟩ := h'
    obtain ⟨_, _, _, _, _, _, _, _, _, hP, _⟩ := mxOk_facts e
    rw [h.one hP h']
  · rw [if_neg e] at h h'
    omega
theorem RkIs.eps {P R C : Int} {D : List Int} {r : Int} (h : RkIs P R C D r) : r = Classical.epsilon (RkIs P R C D) := h.one (Classical.epsilon_spec ⟨r, h⟩)

set_option maxRecDepth 100000 in
set_option maxHeartbeats 1000000 in
theorem implRankOf_ex (P R C : Int) (d : Value) (D : List Int) (w : World) (hd : Ints w d D) :
    Calls Try.prog 69 #[.agg #[.int .i64 P, .int .i64 R, .int .i64 C, d]] w fun e w' => ∃ r, e = .returned (.int .i64 r) ∧ RkIs P R C D r ∧ Below w.heap.size w w' := by
  have Hd := Lib.hid hd
  obtain ⟨p, cap, rfl, ⟨_, mx⟩, _⟩ := hd
  unfold maxLen at mx
  cases h1 : mxOk P R C D with
  | false =>
    have H1 := Lib.hid h1
    clear h1
    go_enter Try.func69, Try.ntmps69
    go_wp2_with fail
    refine (implMatrixOk_b _ _ _ _ _ _ H1.out _ (Hd.out.below (below_alloc _ _))).mono ?_
    rintro e w1 ⟨rfl, hb1⟩
    have Hb1 := Lib.hid ((below_alloc w _).trans (hb1.mono (by simp)))
    clear hb1
    go_wp2_with fail
    go_ret
    exact ⟨_, rfl, by unfold RkIs; rw [H1.out]; rfl, Hb1.out⟩
  | true =>
    obtain ⟨r, c, rfl, rfl, hr, hc0, hc, hlD, hD, hP2, hP7, hpr⟩ := mxOk_facts h1
    have H1 := Lib.hid h1
    have Hrg := Lib.hid (fun t => getD_range hD (by omega) t)
    have HlD := Lib.hid hlD
    have Hpr := Lib.hid hpr
    clear h1 hlD hD hpr
    go_enter Try.func69, Try.ntmps69
    go_wp2_with fail
    refine (implMatrixOk_b _ _ _ _ _ _ H1.out _ (Hd.out.below (below_alloc _ _))).mono ?_
    rintro e w1 ⟨rfl, hb1⟩
    have Z := Lib.hid ((hb1.block _ (by simp)).trans (heap_alloc_top _ _))
    have Hb1 := Lib.hid ((below_alloc w _).trans (hb1.mono (by simp)))
    have Hd1 := Lib.hid (Hd.out.below Hb1.out)
    clear hb1
    obtain ⟨c0, c1, c2, c3, cf, cz⟩ := blk4 Z.out
    go_wp2_with fail
    go_region_held3 (fun w' => (w'.cell? ⟨w.heap.size, 0, none⟩ = some (.int .i64 P) ∧ w'.cell? ⟨w.heap.size, 1, none⟩ = some (.int .i64 (r : Int)) ∧ w'.cell? ⟨w.heap.size, 2, none⟩ = some (.int .i64 (c : Int)) ∧ w'.cell? ⟨w.heap.size, 3, none⟩ = some (.slice p D.length cap)) ∧ Below w1.heap.size w1 w')
      (first | exact ⟨⟨c0, c1, c2, c3⟩, (Below.refl _ _).drew⟩ | exact keep4 hb1 (by assumption))
      (first
        | (go_at_call 41; refine (lines_any P r c _ D _ (held_ints Hd1.out (by assumption)) (by omega) (by omega) hc0 HlD.out).mono ?_; rintro e w' ⟨u, rfl, hoL, hb1⟩; obtain ⟨pu, ku, rfl, _, _⟩ := hoL.shape)
        | (go_at_call 79; refine (reduced_any _ (rowsOf r c D) c P _ (OwnII.below hoL (by first | exact Below.refl _ _ | exact (Below.refl _ _).drew)).rd (rowsOf_ok HlD.out Hrg.out) Hpr.out (by rw [rowsOf_length]; omega) (by omega)).mono ?_; rintro e w' ⟨v, L, q, rfl, hoR, hb1, hR1, hR2, hR3, hR4, hR5⟩; obtain ⟨pv, kv, rfl, hkv1, hkv2⟩ := hoR.shape; unfold maxLen at hkv2))
    have hbw := held_below (by assumption)
    have hnk : HasRank P c r (mf c fun t => D.getD t 0) L.length := ⟨_, _, hR2, hR3, fun i j hi hj => (hR1 i hi).2 j, rows_flat.trans hR4⟩
    rw [rowsOf_length] at hR5
    have Hnk := Lib.hid hnk
    have Hbw := Lib.hid (Hb1.out.trans (Below.mono hbw Hb1.out.size))
    go_wp2_with fail
    go_ret
    refine ⟨_, rfl, ?_, Hbw.out⟩
    unfold RkIs
    rw [if_pos H1.out]
    exact ⟨L.length, rfl, by omega, Hnk.out⟩


theorem implRankOf_any (P R C : Int) (d : Value) (D : List Int) (w : World) (hd : Ints w d D) :
    Calls Try.prog 69 #[.agg #[.int .i64 P, .int .i64 R, .int .i64 C, d]] w fun e w' =>
      e = .returned (.int .i64 (Classical.epsilon (RkIs P R C D))) ∧ Below w.heap.size w w' :=
  (implRankOf_ex P R C d D w hd).mono fun e w' ⟨r, h1, h2, h3⟩ => ⟨by rw [h1, h2.eps], h3⟩

end Go.Proofs.Ytoodgbflaaabmaa

namespace Go.Proofs.Ytoodgbflaaabmaa
set_option linter.all false
open Go.RowKit

/-- n rows of C numbers, one behind the other -/
def flatM (n C : Nat) (M : Nat → Nat → Int) : List Int := (List.range (n * C)).map fun t => M (t / C) (t % C)
theorem flatM_length (n C : Nat) (M : Nat → Nat → Int) : (flatM n C M).length = n * C := by simp [flatM]
theorem flatM_congr {n C : Nat} {M M' : Nat → Nat → Int} (h : ∀ i j, i < n → j < C → M i j = M' i j) : flatM n C M = flatM n C M' := by
  unfold flatM
  refine List.map_congr_left fun t ht => ?_
  have ht : t < n * C := by simpa using ht
  have hC : 0 < C := by
    rcases Nat.eq_zero_or_pos C with h0 | h0
    · rw [h0] at ht; omega
    · exact h0
  exact h _ _ (Nat.div_lt_of_lt_mul (by rwa [Nat.mul_comm])) (Nat.mod_lt _ hC)
theorem flatM_mf (n C : Nat) (h : Nat → Int) : flatM n C (mf C h) = (List.range (n * C)).map h := by
  unfold flatM mf
  refine List.map_congr_left fun t _ => ?_
  rw [Nat.mul_comm, Nat.div_add_mod]
theorem flatM_rows {C : Nat} {L : List (List Int)} (h : ∀ i, i < L.length → (L.getD i []).length = C) : flatM L.length C (mt L) = L.flatten := by
  have hL : ∀ r ∈ L, r.length = C := fun r hr => by
    obtain ⟨i, hi, rfl⟩ := List.mem_iff_getElem.1 hr
    have := h i hi
    rwa [List.getD_eq_getElem?_getD, List.getElem?_eq_getElem hi, Option.getD_some] at this
  have hl : L.flatten.length = L.length * C := flat_length hL
  apply List.ext_getElem (by rw [flatM_length, hl])
  intro t h1 h2
  rw [flatM_length] at h1
  have hC : 0 < C := by
    rcases Nat.eq_zero_or_pos C with h0 | h0
    · rw [h0] at h1; omega
    · exact h0
  have e := flat_getD (t := t) hC hL
  rw [List.getD_eq_getElem?_getD, List.getElem?_eq_getElem h2, Option.getD_some] at e
  rw [e]
  simp [flatM, mt]

/-- what SpanOf returns -/
def SpIs (P R C : Int) (D : List Int) (m : Mx) : Prop :=
  if mxOk P R C D = true then ∃ (n : Nat) (M : Nat → Nat → Int) (q : Nat → Nat), IsRed P C.toNat R.toNat (mf C.toNat fun t => D.getD t 0) n M q ∧ (n : Int) ≤ R ∧ m = ⟨P, n, C, flatM n C.toNat M⟩ else m = mxZero
theorem SpIs.one {P R C : Int} {D : List Int} {m m' : Mx} (h : SpIs P R C D m) (h' : SpIs P R C D m') : m = m' := by
  unfold SpIs at h h'
  by_cases e : mxOk P R C D = true
  · rw [if_pos e] at h h'
    obtain ⟨n, M, q, h1, _, rfl⟩ := h
    obtain ⟨n', M', q', h1', _, rfl⟩ := h'
    obtain ⟨_, _, _, _, _, _, _, _, _, hP, _⟩ := mxOk_facts e
    obtain ⟨e1, _, e3⟩ := h1.one hP h1'
    subst e1
    rw [flatM_congr e3]
  · rw [if_neg e] at h h'
    rw [h, h']
instance : Nonempty Mx := ⟨mxZero⟩
/-- .. or the empty one, were there none -/
def SpQ (P R C : Int) (D : List Int) (m : Mx) : Prop := SpIs P R C D m ∨ ((∀ m', ¬ SpIs P R C D m') ∧ m = mxZero)
theorem SpQ.ex (P R C : Int) (D : List Int) : ∃ m, SpQ P R C D m := by
  by_cases h : ∃ m, SpIs P R C D m
  · obtain ⟨m, h⟩ := h
    exact ⟨m, .inl h⟩
  · exact ⟨mxZero, .inr ⟨fun m hm => h ⟨m, hm⟩, rfl⟩⟩
theorem SpIs.eps {P R C : Int} {D : List Int} {m : Mx} (h : SpIs P R C D m) : m = Classical.epsilon (SpQ P R C D) := by
  rcases Classical.epsilon_spec (SpQ.ex P R C D) with h2 | ⟨h2, _⟩
  · exact h.one h2
  · exact absurd h (h2 m)
theorem SpIs.len {P R C : Int} {D : List Int} {m : Mx} (h : SpIs P R C D m) : m.D.length ≤ 1000 := by
  unfold SpIs at h
  by_cases e : mxOk P R C D = true
  · rw [if_pos e] at h
    obtain ⟨n, M, q, _, hn, rfl⟩ := h
    obtain ⟨r, c, rfl, rfl, hr, _, hc, _⟩ := mxOk_facts e
    rw [flatM_length]
    have : n * c ≤ 7 * 7 := Nat.mul_le_mul (by omega) hc
    simp only [Int.toNat_natCast]
    omega
  · rw [if_neg e] at h
    rw [h]; simp [mxZero]

theorem span_len (P R C : Int) (D : List Int) : (Classical.epsilon (SpQ P R C D)).D.length ≤ 1000 := by
  rcases Classical.epsilon_spec (SpQ.ex P R C D) with h | ⟨_, h⟩
  · exact h.len
  · rw [h]; simp [mxZero]

theorem ints_take {w : World} {p : Option Addr} {k N : Nat} {h : Nat → Int} {K : Nat} (hI : Ints w (.slice p N k) ((List.range N).map h)) (hK : K ≤ N) : Ints w (.slice p K k) ((List.range K).map h) := by
  obtain ⟨q, cap, e, ⟨h1, h2⟩, hc⟩ := hI
  injection e with e1 e2 e3
  subst e1 e3
  rw [List.length_map, List.length_range] at h1 hc
  refine ⟨p, k, by simp, ⟨by simp; omega, h2⟩, fun h0 => ?_⟩
  rw [List.length_map, List.length_range] at h0 
  obtain ⟨b, off, e, hx⟩ := hc (by omega)
  refine ⟨b, off, e, fun j hj => ?_⟩
  rw [List.length_map, List.length_range] at hj
  rw [hx j (by omega)]
  simp [iv, List.getD_eq_getElem?_getD, hj, show j < N by omega]

set_option maxRecDepth 100000 in
set_option maxHeartbeats 1000000 in
theorem l7Top_any (P : Int) (R C n : Nat) (p : Option Addr) (k N : Nat) (h : Nat → Int) (w : World) (hI : Ints w (.slice p N k) ((List.range N).map h)) (hN : N = R * C) (hn : n ≤ R) (hR : R ≤ 14) (hC : C ≤ 14) :
    Calls Try.prog 95 #[.agg #[.int .i64 P, .int .i64 (R : Int), .int .i64 (C : Int), .slice p N k], .int .i64 (n : Int)] w (RetM w ⟨P, n, C, (List.range (n * C)).map h⟩) := by
  obtain ⟨K, hK, r1, r2⟩ := mul_named n C (by have := Nat.mul_le_mul (show n ≤ 14 by omega) hC; omega)
  have R1 := Lib.hid r1
  have R2 := Lib.hid r2
  clear r1 r2
  have hKN : K ≤ N := by rw [hK, hN]; exact Nat.mul_le_mul_right _ hn
  have hRC : R * C ≤ 14 * 14 := Nat.mul_le_mul hR hC
  have hN196 : N ≤ 196 := by omega
  rw [← hK]
  have HI := Lib.hid (ints_take hI hKN)
  obtain ⟨_, _, e, ⟨hk1, hk2⟩, hpp⟩ := hI
  injection e with e1 e2 e3
  clear e2
  subst e1 e3
  rw [List.length_map, List.length_range] at hk1 hpp
  unfold maxLen at hk2
  have hpc : p = none → K = 0 := fun hp => by
    rcases Nat.eq_zero_or_pos N with h0 | h0
    · omega
    · obtain ⟨b, off, e, _⟩ := hpp h0
      rw [hp] at e; cases e
  obtain ⟨z1, z2⟩ := box2_start w 34 34 P R C (.slice p N k)
  have hB0 := below_alloc2 w (.cells #[.int .i64 P, .int .i64 R, .int .i64 C, .slice p N k] 34) (.cells #[.int .i64 0, .int .i64 0, .int .i64 0, .slice none 0 0] 34)
  have Z1 := Lib.hid z1
  have Z2 := Lib.hid z2
  have HB0 := Lib.hid hB0
  clear z1 z2 hB0 hpp hK hN hRC
  have h0K : (0 : Int) ≤ (K : Int) := by omega
  have hKk : (K : Int) ≤ (k : Int) := by omega
  have hKl : ((List.range K).map h).length = K := by simp
  generalize (List.range K).map h = L at *
  obtain rfl : L.length = K := hKl
  go_enter Try.func95, Try.ntmps95
  go_wp2_with fail
  have hs0 : ((w.alloc (.cells #[.int .i64 P, .int .i64 R, .int .i64 C, .slice p N k] 34)).alloc (.cells #[.int .i64 0, .int .i64 0, .int .i64 0, .slice none 0 0] 34)).heap.size = w.heap.size + 1 + 1 := by simp
  generalize (w.alloc (.cells #[.int .i64 P, .int .i64 R, .int .i64 C, .slice p N k] 34)).alloc (.cells #[.int .i64 0, .int .i64 0, .int .i64 0, .slice none 0 0] 34) = w2 at *
  obtain ⟨c0, c1, c2, c3, cf, hz⟩ := blk4 Z1.out
  have hne1 : w.heap.size ≠ w.heap.size + 1 := by omega
  have hne2 : w.heap.size ≤ w.heap.size + 1 := by omega
  have hl6 : L.length ≤ 1000000 := by omega
  have f1 := R1.out
  have f2 := R2.out
  go_region_held3 (fun w' => ((w'.cell? ⟨w.heap.size, 0, none⟩ = some (.int .i64 P) ∧ w'.cell? ⟨w.heap.size, 1, none⟩ = some (.int .i64 (R : Int)) ∧ w'.cell? ⟨w.heap.size, 2, none⟩ = some (.int .i64 (C : Int)) ∧ w'.cell? ⟨w.heap.size, 3, none⟩ = some (.slice p N k)) ∧ ∃ y0 y1 y2 y3, w'.heap[w.heap.size + 1]? = some (.cells #[y0, y1, y2, y3] 34 (0, 0))) ∧ Below w.heap.size w w')
    (first | exact ⟨⟨⟨c0, c1, c2, c3⟩, _, _, _, _, Z2.out⟩, HB0.out.drew⟩ | exact keep5 hb1 (by assumption) | exact keep5_set hne1 hne2 _ _ _ _ (by assumption))
    (first | (go_at_call 91; refine (l1Ints_any _ L _ (held_ints HI.out (by assumption)) hl6).mono ?_; rintro e w' ⟨u, rfl, ho, hb1⟩; obtain ⟨pu, ku, rfl, _, _⟩ := ho.shape; obtain ⟨y0, y1, y2, y3, hy⟩ := s5_blk (by assumption); obtain ⟨d0, d1, d2, d3, df, dz⟩ := blk4 (blk_later hy hb1)))
  clear f1 f2
  have hds : w2.drew.heap.size = w2.heap.size := rfl
  have hbz : Below w.heap.size w w' := HB0.out.trans ((below_of_drew hb1).mono (by omega))
  have hsz := hb1.size
  have hz4 := set4_all (blk_later Z2.out (below_of_drew hb1)) (.int .i64 P) (.int .i64 (n : Int)) (.int .i64 (C : Int)) (.slice pu L.length ku)
  have ho4 : OwnI 3 w' (w.heap.size + 1 + 1) w'.heap.size (.slice pu L.length ku) L := ho.mono (by omega) (Nat.le_refl _)
  have Hz4 := Lib.hid hz4
  have Ho4 := Lib.hid ho4
  have Hbz := Lib.hid hbz
  clear hz4 ho4 hbz ho hb1 hy d0 d1 d2 d3 df
  obtain ⟨f0, f1, f2, f3, ff, fz⟩ := blk4 Hz4.out
  go_wp2_with fail
  refine bodyPost_ret (v := .agg #[.int .i64 P, .int .i64 (n : Int), .int .i64 (C : Int), .slice pu L.length ku]) (by simp [results, Try.results95, go_sem, f0, f1, f2, f3, fz]) rfl ⟨_, rfl, ?_, ?_⟩
  · exact (own_set4 Ho4.out (.inl (by omega)) _ _ _ _).mono (by omega) (by simp only [size_setCell]; omega)
  · exact below_set4 Hbz.out (by omega) _ _ _ _

theorem span_flat {P : Int} {C : Nat} {L : List (List Int)} (h : RowsOk P C L) : flatM L.length C (mt L) = L.flatten := flatM_rows fun i hi => (h i hi).1
theorem span_small {P : Int} {C r : Nat} {L : List (List Int)} (h : RowsOk P C L) (hl : L.length ≤ r) (hr : r ≤ 14) (hC : C ≤ 14) : L.flatten.length ≤ 1000000 := by
  rw [← span_flat h, flatM_length]
  have := Nat.mul_le_mul (Nat.le_trans hl hr) hC
  omega

/-- a matrix, in new memory, which is the span's reduced form -/
def RetSp (w : World) (P : Int) (C R : Nat) (M0 : Nat → Nat → Int) (e : Ending) (w' : World) : Prop :=
  ∃ (n : Nat) (M : Nat → Nat → Int) (q : Nat → Nat), IsRed P C R M0 n M q ∧ n ≤ R ∧ RetM w ⟨P, n, C, flatM n C M⟩ e w'

set_option maxRecDepth 100000 in
set_option maxHeartbeats 1000000 in
theorem l7Span_any (P : Int) (R C : Nat) (d : Value) (D : List Int) (w : World) (hd : Ints w d D) (hD : D.length = R * C) (hrg : ∀ t, 0 ≤ D.getD t 0 ∧ D.getD t 0 < P) (hP : primeOk P = true) (hR : R ≤ 14) (hC : C ≤ 14) :
    Calls Try.prog 83 #[.agg #[.int .i64 P, .int .i64 (R : Int), .int .i64 (C : Int), d]] w (RetSp w P C R (mf C fun t => D.getD t 0)) := by
  have HL := Lib.hid (fun W (hW : Ints W d D) => l7Reduce_any P R C d D W hW hD hrg hP hR hC)
  have Hd := Lib.hid hd
  have hDl : D.length ≤ 196 := by have := Nat.mul_le_mul hR hC; omega
  have HD := Lib.hid hD
  obtain ⟨p, cap, rfl, _⟩ := hd
  clear hrg hP hD
  obtain ⟨z1, z2⟩ := box2_start w 34 34 P R C (.slice p D.length cap)
  have hB0 := below_alloc2 w (.cells #[.int .i64 P, .int .i64 R, .int .i64 C, .slice p D.length cap] 34) (.cells #[.int .i64 0, .int .i64 0, .int .i64 0, .slice none 0 0] 34)
  have Z1 := Lib.hid z1
  have Z2 := Lib.hid z2
  have HB0 := Lib.hid hB0
  clear z1 z2 hB0
  go_enter Try.func83, Try.ntmps83
  go_wp2_with fail
  have hs0 : ((w.alloc (.cells #[.int .i64 P, .int .i64 R, .int .i64 C, .slice p D.length cap] 34)).alloc (.cells #[.int .i64 0, .int .i64 0, .int .i64 0, .slice none 0 0] 34)).heap.size = w.heap.size + 1 + 1 := by simp
  generalize (w.alloc (.cells #[.int .i64 P, .int .i64 R, .int .i64 C, .slice p D.length cap] 34)).alloc (.cells #[.int .i64 0, .int .i64 0, .int .i64 0, .slice none 0 0] 34) = w2 at *
  refine (HL.out w2 (Hd.out.below HB0.out)).mono ?_
  rintro e w3 ⟨u, v, h, n, qf, rfl, hu, hv, hb, hn, hrg', hred, hasc, hz, hs⟩
  obtain ⟨N, hN⟩ : ∃ N, N = R * C := ⟨_, rfl⟩
  rw [← hN] at hu
  have HN := Lib.hid hN
  clear hN
  obtain ⟨p1, k1, rfl, _, _⟩ := hu.shape
  obtain ⟨p2, k2, rfl, _, _⟩ := hv.shape
  have hr : IsRed P C R (mf C fun t => D.getD t 0) n (mf C h) qf := ⟨hred, hasc, fun i c hi hc => hrg' i c (Nat.lt_of_lt_of_le hi hn) hc, hs⟩
  have Hr := Lib.hid hr
  have hs3 := hb.size
  have Z2' := Lib.hid (blk_later Z2.out hb)
  have Hb := Lib.hid (HB0.out.trans (hb.mono (by omega)))
  have hI : Ints w3 (.slice p1 N k1) ((List.range N).map h) := by
    have e : ((List.range N).map h).length = N := by simp
    have : OwnI 3 w3 w2.heap.size w3.heap.size (.slice p1 N k1) ((List.range N).map h) := by
      refine OwnF.ints ?_
      rw [e]
      exact hu.congr fun t ht => by simp [iv, List.getD_eq_getElem?_getD, ht]
    exact this.ints
  have HI := Lib.hid hI
  clear hu hv hb hrg' hred hasc hz hs hr hI
  go_wp2_with fail
  refine (l7Top_any P R C n p1 k1 N h _ (HI.out.below (below_alloc _ _)) HN.out hn hR hC).mono ?_
  rintro e w5 ⟨u5, rfl, ho5', hb5⟩
  have ho5 : OwnI 3 w5 _ w5.heap.size u5 ((List.range (n * C)).map h) := ho5'
  have e6 : (List.range (n * C)).map h = flatM n C (mf C h) := (flatM_mf n C h).symm
  rw [e6] at ho5
  have hfl := flatM_length n C (mf C h)
  obtain ⟨L, hL⟩ : ∃ L, L = flatM n C (mf C h) := ⟨_, rfl⟩
  rw [← hL] at ho5
  obtain ⟨p6, k6, rfl, _, _⟩ := ho5.shape
  have hb6 := (below_alloc w3 _).trans (hb5.mono (by simp))
  have hs5 := hb6.size
  have Z5 := Lib.hid (blk_later Z2'.out hb6)
  have Hb5 := Lib.hid (Hb.out.trans (hb6.mono (by omega)))
  have Ho5 : Hid (OwnI 3 w5 (w.heap.size + 1 + 1) w5.heap.size (.slice p6 L.length k6) L) := Lib.hid (ho5.mono (by simp; omega) (Nat.le_refl _))
  have HLL := Lib.hid hL
  clear ho5 ho5' hb5 hb6 e6 hL hfl
  obtain ⟨d0, d1, d2, d3, df, dz⟩ := blk4 Z5.out
  obtain ⟨f0, f1, f2, f3, ff, fz⟩ := blk4 (set4_all Z5.out (.int .i64 P) (.int .i64 (n : Int)) (.int .i64 (C : Int)) (.slice p6 L.length k6))
  go_wp2_with fail
  refine bodyPost_ret (v := .agg #[.int .i64 P, .int .i64 (n : Int), .int .i64 (C : Int), .slice p6 L.length k6]) (by simp [results, Try.results83, go_sem, f0, f1, f2, f3, fz]) rfl ⟨n, mf C h, qf, Hr.out, hn, ?_⟩
  rw [← HLL.out]
  refine ⟨_, rfl, ?_, ?_⟩
  · exact (own_set4 Ho5.out (.inl (by omega)) _ _ _ _).mono (by omega) (by simp only [size_setCell]; omega)
  · exact below_set4 Hb5.out (by omega) _ _ _ _

set_option maxRecDepth 100000 in
set_option maxHeartbeats 1000000 in
theorem implSpanOf_ex (P R C : Int) (d : Value) (D : List Int) (w : World) (hd : Ints w d D) :
    Calls Try.prog 54 #[.agg #[.int .i64 P, .int .i64 R, .int .i64 C, d]] w fun e w' => ∃ m, SpIs P R C D m ∧ RetM w m e w' := by
  have Hd := Lib.hid hd
  obtain ⟨p, cap, rfl, ⟨_, mx⟩, _⟩ := hd
  unfold maxLen at mx
  obtain ⟨z1, z2⟩ := box2_start w 34 34 P R C (.slice p D.length cap)
  have hB0 := below_alloc2 w (.cells #[.int .i64 P, .int .i64 R, .int .i64 C, .slice p D.length cap] 34) (.cells #[.int .i64 0, .int .i64 0, .int .i64 0, .slice none 0 0] 34)
  have Z1 := Lib.hid z1
  have Z2 := Lib.hid z2
  have HB0 := Lib.hid hB0
  clear z1 z2 hB0
  cases h1 : mxOk P R C D with
  | false =>
    have H1 := Lib.hid h1
    clear h1
    go_enter Try.func54, Try.ntmps54
    go_wp2_with fail
    have hs0 : ((w.alloc (.cells #[.int .i64 P, .int .i64 R, .int .i64 C, .slice p D.length cap] 34)).alloc (.cells #[.int .i64 0, .int .i64 0, .int .i64 0, .slice none 0 0] 34)).heap.size = w.heap.size + 1 + 1 := by simp
    generalize (w.alloc (.cells #[.int .i64 P, .int .i64 R, .int .i64 C, .slice p D.length cap] 34)).alloc (.cells #[.int .i64 0, .int .i64 0, .int .i64 0, .slice none 0 0] 34) = w2 at *
    refine (implMatrixOk_b _ _ _ _ _ _ H1.out _ (Hd.out.below HB0.out)).mono ?_
    rintro e w3 ⟨rfl, hb⟩
    have Hb := Lib.hid (HB0.out.trans (hb.mono (by omega)))
    have Z3 := Lib.hid (blk_later Z2.out hb)
    clear hb
    obtain ⟨d0, d1, d2, d3, df, dz⟩ := blk4 Z3.out
    obtain ⟨f0, f1, f2, f3, ff, fz⟩ := blk4 (set4_all Z3.out (.int .i64 0) (.int .i64 0) (.int .i64 0) (.slice none 0 0))
    go_wp2_with fail
    refine bodyPost_ret (v := .agg #[.int .i64 0, .int .i64 0, .int .i64 0, .slice none 0 0]) (by simp [results, Try.results54, go_sem, f0, f1, f2, f3, fz]) rfl ⟨mxZero, by unfold SpIs; rw [H1.out]; rfl, ⟨_, rfl, ?_, ?_⟩⟩
    · exact ⟨World.ownsRow_nil _ _ _ _, fun k hk => by simp [Value.ownBlock] at hk⟩
    · exact below_set4 Hb.out (by omega) _ _ _ _
  | true =>
    obtain ⟨r, c, rfl, rfl, hr, hc0, hc, hlD, hD, hP2, hP7, hpr⟩ := mxOk_facts h1
    have H1 := Lib.hid h1
    have Hrg := Lib.hid (fun t => getD_range hD (by omega) t)
    have HlD := Lib.hid hlD
    have Hpr := Lib.hid hpr
    clear h1 hlD hD hpr
    go_enter Try.func54, Try.ntmps54
    go_wp2_with fail
    have hs0 : ((w.alloc (.cells #[.int .i64 P, .int .i64 (r : Int), .int .i64 (c : Int), .slice p D.length cap] 34)).alloc (.cells #[.int .i64 0, .int .i64 0, .int .i64 0, .slice none 0 0] 34)).heap.size = w.heap.size + 1 + 1 := by simp
    generalize (w.alloc (.cells #[.int .i64 P, .int .i64 (r : Int), .int .i64 (c : Int), .slice p D.length cap] 34)).alloc (.cells #[.int .i64 0, .int .i64 0, .int .i64 0, .slice none 0 0] 34) = w2 at *
    obtain ⟨b0, b1, b2, b3, bf, bz⟩ := blk4 Z1.out
    refine (implMatrixOk_b _ _ _ _ _ _ H1.out _ (Hd.out.below HB0.out)).mono ?_
    rintro e w3 ⟨rfl, hb⟩
    have Hb := Lib.hid (HB0.out.trans (hb.mono (by omega)))
    have Z3 := Lib.hid (blk_later Z2.out hb)
    have Z4 := Lib.hid (blk_later Z1.out hb)
    have hs3 := hb.size
    have hs3w : w.heap.size + 1 + 1 ≤ w3.heap.size := by omega
    have hne1 : w.heap.size ≠ w.heap.size + 1 := by omega
    have hne2 : w.heap.size ≤ w.heap.size + 1 := by omega
    clear hb b0 b1 b2 b3 bf bz
    obtain ⟨b0, b1, b2, b3, bf, bz⟩ := blk4 Z4.out
    go_wp2_with fail
    go_region_held3 (fun w' => ((w'.cell? ⟨w.heap.size, 0, none⟩ = some (.int .i64 P) ∧ w'.cell? ⟨w.heap.size, 1, none⟩ = some (.int .i64 (r : Int)) ∧ w'.cell? ⟨w.heap.size, 2, none⟩ = some (.int .i64 (c : Int)) ∧ w'.cell? ⟨w.heap.size, 3, none⟩ = some (.slice p D.length cap)) ∧ ∃ y0 y1 y2 y3, w'.heap[w.heap.size + 1]? = some (.cells #[y0, y1, y2, y3] 34 (0, 0))) ∧ Below w.heap.size w w')
      (first | exact ⟨⟨⟨b0, b1, b2, b3⟩, _, _, _, _, Z3.out⟩, Hb.out.drew⟩ | exact keep5 hb1 (by assumption) | exact keep5_set hne1 hne2 _ _ _ _ (by assumption))
      (first
        | (go_at_call 41; refine (lines_any P r c _ D _ (held_ints Hd.out (by assumption)) (by omega) (by omega) hc0 HlD.out).mono ?_; rintro e w' ⟨u, rfl, hoL, hb1⟩; obtain ⟨pu, ku, rfl, _, _⟩ := hoL.shape; have hbz : Below w3.heap.size w3 w' := (by first | exact hb1 | exact below_of_drew hb1))
        | (go_at_call 79; refine (reduced_any _ (rowsOf r c D) c P _ (OwnII.below hoL (by first | exact Below.refl _ _ | exact (Below.refl _ _).drew)).rd (rowsOf_ok HlD.out Hrg.out) Hpr.out (by rw [rowsOf_length]; omega) (by omega)).mono ?_; rintro e w' ⟨v, L, q, rfl, hoR, hb1, hR1, hR2, hR3, hR4, hR5⟩; obtain ⟨pv, kv, rfl, hkv1, hkv2⟩ := hoR.shape; have hbz : Below w3.heap.size w3 w' := (by first | exact below_trans hbz hb1 | exact below_trans hbz (below_of_drew hb1)); have hfl := span_flat hR1; rw [rowsOf_length] at hR5)
        | (go_at_call 45; refine (matrixOf_any P c _ L _ (OwnII.below hoR (by first | exact Below.refl _ _ | exact (Below.refl _ _).drew)).rd (span_small hR1 hR5 (by omega) (by omega))).mono ?_; rintro e w' ⟨um, rfl, hoM', hb1⟩; have hsb := hbz.size; have hbz : Below w3.heap.size w3 w' := (by first | exact below_trans hbz hb1 | exact below_trans hbz (below_of_drew hb1)); have hoM : OwnI 3 w' (w.heap.size + 1 + 1) w'.heap.size um L.flatten := OwnI.mono hoM' (Nat.le_trans hs3w hsb) (Nat.le_refl _); clear hoM'; obtain ⟨FL, hFL⟩ : ∃ FL, FL = L.flatten := ⟨_, rfl⟩; rw [← hFL] at hoM hfl; have HFL := Lib.hid hFL; clear hFL; obtain ⟨pm, km, rfl, _, _⟩ := hoM.shape; obtain ⟨y0, y1, y2, y3, hy⟩ := s5_blk (by assumption); obtain ⟨d0, d1, d2, d3, df, dz⟩ := blk4 (blk_later hy hb1)))
    have hsz := hbz.size
    have hred : IsRed P c r (mf c fun t => D.getD t 0) L.length (mt L) q := ⟨hR2, hR3, fun i j hi hj => (hR1 i hi).2 j, rows_flat.trans hR4⟩
    have Hred := Lib.hid hred
    have Hz4 := Lib.hid (set4_all (blk_later Z3.out hbz) (.int .i64 P) (.int .i64 (L.length : Int)) (.int .i64 (c : Int)) (.slice pm FL.length km))
    have HoM := Lib.hid hoM
    have Hbz := Lib.hid (Hb.out.trans (Below.mono hbz (by omega)))
    have Hfl := Lib.hid hfl
    clear hbz hoM hb1 hy d0 d1 d2 d3 df hred hR1 hR2 hR3 hR4 hfl
    obtain ⟨f0, f1, f2, f3, ff, fz⟩ := blk4 Hz4.out
    go_wp2_with fail
    refine bodyPost_ret (v := .agg #[.int .i64 P, .int .i64 (L.length : Int), .int .i64 (c : Int), .slice pm FL.length km]) (by simp [results, Try.results54, go_sem, f0, f1, f2, f3, fz]) rfl ⟨⟨P, L.length, c, FL⟩, ?_, ⟨_, rfl, ?_, ?_⟩⟩
    · unfold SpIs
      rw [if_pos H1.out]
      exact ⟨L.length, mt L, q, Hred.out, by omega, by rw [← Hfl.out]; rfl⟩
    · exact (own_set4 HoM.out (.inl (by omega)) _ _ _ _).mono (by omega) (by simp only [size_setCell]; omega)
    · exact below_set4 Hbz.out (by omega) _ _ _ _

theorem implSpanOf_any (P R C : Int) (d : Value) (D : List Int) (w : World) (hd : Ints w d D) :
    Calls Try.prog 54 #[.agg #[.int .i64 P, .int .i64 R, .int .i64 C, d]] w (RetM w (Classical.epsilon (SpQ P R C D))) :=
  (implSpanOf_ex P R C d D w hd).mono fun e w' ⟨m, h1, h2⟩ => h1.eps ▸ h2
end Go.Proofs.Ytoodgbflaaabmaa

namespace Go.Proofs.Ytoodgbflaaabmaa
set_option linter.all false
open Go.RowKit

set_option maxRecDepth 100000 in
set_option maxHeartbeats 400000 in
theorem sliceEq_any (v1 v2 : Value) (xs ys : List Int) (w : World) (h1 : Ints w v1 xs) (h2 : Ints w v2 ys) :
    Calls Try.prog 53 #[v1, v2] w fun e w' => e = .returned (.bool (decide (xs = ys))) ∧ Qt w w' := by
  obtain ⟨p, cap, rfl, ⟨hx1, hx⟩, hxc⟩ := h1
  obtain ⟨q, cap', rfl, ⟨hy1, hy⟩, hyc⟩ := h2
  unfold maxLen at hx hy
  by_cases hl : xs.length = ys.length
  · have e1 : ((xs.length : Int) != (ys.length : Int)) = false := by simp [hl]
    have Hl := Lib.hid hl
    clear hl
    go_enter Try.func53, Try.ntmps53
    go_wp2
    clear e1
    go_loopg [5, 13] xs.length (fun g s5 i wr => ∃ k : Nat, k ≤ xs.length ∧ g = xs.length - k ∧ i = .int .i64 k ∧ Qt w wr ∧ Hid (∀ j, j < k → xs.getD j 0 = ys.getD j 0))
    case atStart => exact ⟨0, Nat.zero_le _, rfl, rfl, Qt.refl _, fun j hj => absurd hj (Nat.not_lt_zero _)⟩
    case round =>
      obtain ⟨k, hk, rfl, rfl, hq, hp⟩ := hrel
      by_cases hlt : k < xs.length
      · obtain ⟨b, off, rfl, hc⟩ := hxc (by omega)
        have hl := Hl.out
        obtain ⟨b', off', rfl, hc'⟩ := hyc (by omega)
        have c1 := hq.cell (hc k hlt)
        have c2 := hq.cell (hc' k (by omega))
        have hk2 : k < ys.length := by omega
        unfold iv at c1 c2
        clear hl hxc hyc hc hc'
        go_wp2
        go_quiet (fail)
        go_wp2
        · have ht : (xs[k] != ys[k]) = true := by assumption
          go_ret
          refine ⟨ret_bool ?_, hq.drewN _⟩
          symm
          simp only [decide_eq_false_iff_not]
          intro e
          subst e
          simp at ht
        · have ht : (xs[k] != ys[k]) = false := by assumption
          go_roundg (xs.length - (k + 1))
          case measure => omega
          case rel =>
            refine ⟨k + 1, by omega, rfl, by go_num, hq.drewN _, eq_snoc hp.out ?_⟩
            have := by simpa using ht
            simpa [List.getD_eq_getElem?_getD, hlt, hk2] using this
      · go_wp2
        go_ret
        refine ⟨ret_bool ?_, hq⟩
        symm
        simp only [decide_eq_true_eq]
        exact getD_eq_list Hl.out fun j hj => hp.out j (by omega)
  · have e1 : ((xs.length : Int) != (ys.length : Int)) = true := by simp; omega
    go_enter Try.func53, Try.ntmps53
    go_wp2
    go_ret
    refine ⟨ret_bool ?_, Qt.refl _⟩
    symm
    simp only [decide_eq_false_iff_not]
    intro e
    exact hl (by rw [e])

theorem sliceEq_b (v1 v2 : Value) (xs ys : List Int) (w : World) (h1 : Ints w v1 xs) (h2 : Ints w v2 ys) :
    Calls Try.prog 53 #[v1, v2] w fun e w' => e = .returned (.bool (decide (xs = ys))) ∧ Below w.heap.size w w' :=
  (sliceEq_any v1 v2 xs ys w h1 h2).mono fun _ _ ⟨h, hq⟩ => ⟨h, hq.below _⟩

end Go.Proofs.Ytoodgbflaaabmaa
