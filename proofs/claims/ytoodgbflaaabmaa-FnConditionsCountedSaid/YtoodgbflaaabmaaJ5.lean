/-
  The reference's reduction, walked.
  The law's helpers on slices of slices of ints: compared, written over, read again.
-/
import Derived.Test.YtoodgbflaaabmaaJ4
import Derived.Test.YtoodgbflaaabmaaJ1
import Derived.Test.YtoodgbflaaabmaaJ2
namespace Go.Proofs.Ytoodgbflaaabmaa
set_option linter.all false
open Go.RowKit

/-- the number at row i, column c of what lies flat -/
def mf (C : Nat) (h : Nat → Int) (i c : Nat) : Int := h (i * C + c)

/-- the argument's box, the result's cell, the box of out, and what out holds -/
def RS (w : World) (T Ti : TypeId) (P : Int) (R C : Nat) (d : Value) (q : Nat) (p : Option Addr) (k N : Nat) (h : Nat → Int) (wr : World) : Prop :=
  wr.heap[w.heap.size]? = some (.cells #[.int .i64 P, .int .i64 (R : Int), .int .i64 (C : Int), d] T (0, 0)) ∧
  wr.heap[w.heap.size + 1]? = some (.cells #[.int .i64 0, .int .i64 0, .int .i64 0, .slice none 0 0] T (0, 0)) ∧
  wr.heap[q]? = some (.cells #[.int .i64 P, .int .i64 (R : Int), .int .i64 (C : Int), .slice p N k] T (0, 0)) ∧
  OwnF wr (w.heap.size + 2) q Ti (.slice p N k) N (fun t => .int .i64 (h t)) ∧ Below w.heap.size w wr ∧ w.heap.size + 2 ≤ q
namespace RS
variable {w wr wx : World} {T Ti : TypeId} {P : Int} {R C : Nat} {d : Value} {q : Nat} {p : Option Addr} {k N : Nat} {h : Nat → Int}
theorem keep (a : RS w T Ti P R C d q p k N h wr) (hb : ∀ b, b < q + 1 → b < wr.heap.size → wx.heap[b]? = wr.heap[b]?) (hB : Below w.heap.size w wx) : RS w T Ti P R C d q p k N h wx := by
  obtain ⟨a1, a2, a3, a4, a5, a6⟩ := a
  refine ⟨?_, ?_, ?_, a4.keep fun b h1 h2 h3 => hb b (by omega) h3, hB, a6⟩
  · rw [hb _ (by omega) (blk_lt a1)]; exact a1
  · rw [hb _ (by omega) (blk_lt a2)]; exact a2
  · rw [hb _ (by omega) (blk_lt a3)]; exact a3
theorem later (a : RS w T Ti P R C d q p k N h wr) (hb : Below wr.heap.size wr wx) : RS w T Ti P R C d q p k N h wx :=
  a.keep (fun b _ hb2 => hb.block b hb2) (a.2.2.2.2.1.trans (hb.mono a.2.2.2.2.1.size))
theorem congr {h' : Nat → Int} (a : RS w T Ti P R C d q p k N h wr) (e : ∀ t, t < N → h t = h' t) : RS w T Ti P R C d q p k N h' wr :=
  ⟨a.1, a.2.1, a.2.2.1, a.2.2.2.1.congr fun t ht => by rw [e t ht], a.2.2.2.2.1, a.2.2.2.2.2⟩
theorem set {g : Nat} (a : RS w T Ti P R C d q (some ⟨g, 0, none⟩) k N h wr) (h0 : 0 < N) (t : Nat) (x : Int) : RS w T Ti P R C d q (some ⟨g, 0, none⟩) k N (fun j => if j = t then x else h j) (wr.setCell ⟨g, t, none⟩ (.int .i64 x)) := by
  obtain ⟨a1, a2, a3, a4, a5, a6⟩ := a
  obtain ⟨g', e, h1, h2, h3⟩ := a4.at_ h0
  injection e with e
  injection e with e
  subst e
  refine ⟨?_, ?_, ?_, (a4.set t _).congr fun j _ => ?_, a5.setCell (by show w.heap.size ≤ g; omega) _, a6⟩
  · rw [Below.heap_setCell _ _ _ _ (by show _ ≠ g; omega)]; exact a1
  · rw [Below.heap_setCell _ _ _ _ (by show _ ≠ g; omega)]; exact a2
  · rw [Below.heap_setCell _ _ _ _ (by show _ ≠ g; omega)]; exact a3
  · by_cases e : j = t <;> simp [e]
theorem ints (a : RS w T Ti P R C d q p k N h wr) : Ints wr (.slice p N k) ((List.range N).map h) := by
  have e : ((List.range N).map h).length = N := by simp
  have : OwnI Ti wr (w.heap.size + 2) q (.slice p N k) ((List.range N).map h) := by
    refine OwnF.ints ?_
    rw [e]
    exact a.2.2.2.1.congr fun t ht => by simp [iv, List.getD_eq_getElem?_getD, ht]
  exact this.ints
end RS

theorem RS.cell {w wr : World} {T Ti : TypeId} {P : Int} {R C : Nat} {d : Value} {q g k N t : Nat} {h : Nat → Int} (a : RS w T Ti P R C d q (some ⟨g, 0, none⟩) k N h wr) (ht : t < N) :
    wr.cell? ⟨g, t, none⟩ = some (.int .i64 (h t)) ∧ wr.frozen? ⟨g, t, none⟩ = false := ⟨a.2.2.2.1.cell ht, a.2.2.2.1.frozen t⟩
/-- .. and the columns so far -/
def RT (w : World) (T Ti : TypeId) (P : Int) (R C : Nat) (d : Value) (q : Nat) (p : Option Addr) (k N hi : Nat) (v : Value) (n : Nat) (qf : Nat → Nat) (h : Nat → Int) (wr : World) : Prop :=
  RS w T Ti P R C d q p k N h wr ∧ OwnF wr (q + 1) hi Ti v n (fun k => .int .i64 (qf k : Int)) ∧ hi ≤ wr.heap.size
namespace RT
variable {w wr wx : World} {T Ti : TypeId} {P : Int} {R C : Nat} {d v : Value} {q n hi : Nat} {p : Option Addr} {k N : Nat} {h : Nat → Int} {qf : Nat → Nat}
theorem later (a : RT w T Ti P R C d q p k N hi v n qf h wr) (hb : Below wr.heap.size wr wx) : RT w T Ti P R C d q p k N hi v n qf h wx :=
  ⟨a.1.later hb, a.2.1.below hb, Nat.le_trans a.2.2 hb.size⟩
theorem set {g : Nat} (a : RT w T Ti P R C d q (some ⟨g, 0, none⟩) k N hi v n qf h wr) (h0 : 0 < N) (t : Nat) (x : Int) :
    RT w T Ti P R C d q (some ⟨g, 0, none⟩) k N hi v n qf (fun j => if j = t then x else h j) (wr.setCell ⟨g, t, none⟩ (.int .i64 x)) := by
  obtain ⟨g', e, h1, h2, h3⟩ := a.1.2.2.2.1.at_ h0
  injection e with e
  injection e with e
  subst e
  exact ⟨a.1.set h0 t x, a.2.1.setCell (.inl (by show g < _; omega)) _, by rw [size_setCell]; exact a.2.2⟩
end RT
theorem flat_inj {C i c i' c' : Nat} (hc : c < C) (hc' : c' < C) : i' * C + c' = i * C + c ↔ i' = i ∧ c' = c := by
  constructor
  · intro e
    have a := div_at (k := i) hc
    have b := div_at (k := i') hc'
    rw [e] at b
    exact ⟨b.1.symm.trans a.1, b.2.symm.trans a.2⟩
  · rintro ⟨rfl, rfl⟩; rfl
theorem mf_set {C i0 c0 i c : Nat} {h : Nat → Int} {x : Int} (h0 : c0 < C) (hc : c < C) : mf C (fun j => if j = i0 * C + c0 then x else h j) i c = if i = i0 ∧ c = c0 then x else mf C h i c := by
  unfold mf
  dsimp only
  by_cases e : i = i0 ∧ c = c0
  · rw [if_pos ((flat_inj h0 hc).2 e), if_pos e]
  · rw [if_neg fun e2 => e ((flat_inj h0 hc).1 e2), if_neg e]

/-- six cells that the regions read -/
theorem keep6 {W W' : World} {a0 a1 a2 a3 a4 a5 : Addr} {v0 v1 v2 v3 v4 v5 : Value} (hb : Below W.heap.size W W')
    (h : W.cell? a0 = some v0 ∧ W.cell? a1 = some v1 ∧ W.cell? a2 = some v2 ∧ W.cell? a3 = some v3 ∧ W.cell? a4 = some v4 ∧ W.cell? a5 = some v5) :
    W'.cell? a0 = some v0 ∧ W'.cell? a1 = some v1 ∧ W'.cell? a2 = some v2 ∧ W'.cell? a3 = some v3 ∧ W'.cell? a4 = some v4 ∧ W'.cell? a5 = some v5 :=
  ⟨cell_below hb h.1, cell_below hb h.2.1, cell_below hb h.2.2.1, cell_below hb h.2.2.2.1, cell_below hb h.2.2.2.2.1, cell_below hb h.2.2.2.2.2⟩
theorem keep6_set {W : World} {b1 b2 o0 o1 o2 o3 o4 o5 g t : Nat} {x : Value} {v0 v1 v2 v3 v4 v5 : Value} (h1 : b1 ≠ g) (h2 : b2 ≠ g)
    (h : W.cell? ⟨b1, o0, none⟩ = some v0 ∧ W.cell? ⟨b1, o1, none⟩ = some v1 ∧ W.cell? ⟨b2, o2, none⟩ = some v2 ∧ W.cell? ⟨b2, o3, none⟩ = some v3 ∧ W.cell? ⟨b2, o4, none⟩ = some v4 ∧ W.cell? ⟨b2, o5, none⟩ = some v5) :
    (W.setCell ⟨g, t, none⟩ x).cell? ⟨b1, o0, none⟩ = some v0 ∧ (W.setCell ⟨g, t, none⟩ x).cell? ⟨b1, o1, none⟩ = some v1 ∧ (W.setCell ⟨g, t, none⟩ x).cell? ⟨b2, o2, none⟩ = some v2 ∧
    (W.setCell ⟨g, t, none⟩ x).cell? ⟨b2, o3, none⟩ = some v3 ∧ (W.setCell ⟨g, t, none⟩ x).cell? ⟨b2, o4, none⟩ = some v4 ∧ (W.setCell ⟨g, t, none⟩ x).cell? ⟨b2, o5, none⟩ = some v5 := by
  have e1 : (W.setCell ⟨g, t, none⟩ x).heap[b1]? = W.heap[b1]? := Below.heap_setCell _ _ _ _ h1
  have e2 : (W.setCell ⟨g, t, none⟩ x).heap[b2]? = W.heap[b2]? := Below.heap_setCell _ _ _ _ h2
  obtain ⟨c0, c1, c2, c3, c4, c5⟩ := h
  refine ⟨?_, ?_, ?_, ?_, ?_, ?_⟩
  · rw [World.cell?_of_block (w := W) e1]; exact c0
  · rw [World.cell?_of_block (w := W) e1]; exact c1
  · rw [World.cell?_of_block (w := W) e2]; exact c2
  · rw [World.cell?_of_block (w := W) e2]; exact c3
  · rw [World.cell?_of_block (w := W) e2]; exact c4
  · rw [World.cell?_of_block (w := W) e2]; exact c5

/-- l7At, of what lies flat -/
theorem l7At_h (P : Int) (R C i j : Nat) (p : Option Addr) (k N : Nat) (h : Nat → Int) (w : World) (hI : Ints w (.slice p N k) ((List.range N).map h)) (hN : N ≤ 1000) (ht : i * C + j < N) :
    Calls Try.prog 90 #[.agg #[.int .i64 P, .int .i64 (R : Int), .int .i64 (C : Int), .slice p N k], .int .i64 (i : Int), .int .i64 (j : Int)] w fun e w' =>
      e = .returned (.int .i64 (h (i * C + j))) ∧ Below w.heap.size w w' := by
  have := l7At_any P R C i j (.slice p N k) ((List.range N).map h) w hI (by simpa using ht) (by simp; omega)
  have e : ((List.range N).map h).getD (i * C + j) 0 = h (i * C + j) := by simp [List.getD_eq_getElem?_getD, ht]
  rwa [e] at this

/-- .. the number under a name -/
theorem l7At_b (P : Int) (R C i j : Nat) (p : Option Addr) (k N : Nat) (h : Nat → Int) (y : Int) (hy : y = mf C h i j) (hN : N ≤ 1000) (ht : i * C + j < N) (w : World) (hI : Ints w (.slice p N k) ((List.range N).map h)) :
    Calls Try.prog 90 #[.agg #[.int .i64 P, .int .i64 (R : Int), .int .i64 (C : Int), .slice p N k], .int .i64 (i : Int), .int .i64 (j : Int)] w fun e w' =>
      e = .returned (.int .i64 y) ∧ Below w.heap.size w w' := by rw [hy]; exact l7At_h P R C i j p k N h w hI hN ht

theorem l7Inverse_b (x p : Int) (w : World) (hp : primeOk p = true) (h0 : 0 < x) (h1 : x < p) :
    Calls Try.prog 100 #[.int .i64 x, .int .i64 p] w fun e w' => ∃ y : Int, e = .returned (.int .i64 y) ∧ 1 ≤ y ∧ y < p ∧ x * y % p = 1 ∧ Below w.heap.size w w' :=
  (l7Inverse_any x p w hp h0 h1).mono fun _ _ ⟨y, a, b, c, d, e⟩ => ⟨y, a, b, c, d, e.below _⟩
theorem swM_rng {P : Int} {C R a n i c : Nat} {M : Nat → Nat → Int} (h : ∀ i c, i < R → c < C → 0 ≤ M i c ∧ M i c < P) (hn : n < R) (ha : a < R) (hi : i < R) (hc : c < C) : 0 ≤ swM a n M i c ∧ swM a n M i c < P := by
  unfold swM
  split
  · exact h n c hn hc
  · split
    · exact h a c ha hc
    · exact h i c hi hc

theorem scM_rng {P v : Int} {C R n i c : Nat} {M : Nat → Nat → Int} (hP : 2 ≤ P) (h : ∀ i c, i < R → c < C → 0 ≤ M i c ∧ M i c < P) (hi : i < R) (hc : c < C) : 0 ≤ scM P v n M i c ∧ scM P v n M i c < P := by
  unfold scM
  split
  · exact ⟨Int.emod_nonneg _ (by omega), Int.emod_lt_of_pos _ (by omega)⟩
  · exact h i c hi hc
theorem rng64 {x : Int} (h0 : -1000000000000000000 ≤ x) (h1 : x ≤ 1000000000000000000) : wrap64 x = x ∧ IntKind.i64.wrap x = x := ⟨w64 h0 h1, k64 h0 h1⟩

theorem L7I.congr {P : Int} {C R : Nat} {M0 M M' : Nat → Nat → Int} {q : Nat → Nat} {n j : Nat} (hj : j ≤ C) (h : L7I P C R M0 M q n j) (e : ∀ i c, i < R → c < C → M i c = M' i c) : L7I P C R M0 M' q n j := by
  have hn := h.le
  refine ⟨h.le, fun i c hi hc => by rw [← e i c hi hc]; exact h.rng i c hi hc, h.lt, h.asc, fun i k hi hk => ?_, fun i c hi hc => ?_, fun i c h1 h2 h3 => ?_, h.same.trans (SameSp.of_eqv fun i hi => .of_eq fun c hc => e i c hi hc)⟩
  · have := h.lt k hk
    rw [← e i _ hi (by omega)]; exact h.unit i k hi hk
  · have := h.lt i hi
    rw [← e i c (by omega) (by omega)]; exact h.lead i c hi hc
  · rw [← e i c h2 (by omega)]; exact h.zero i c h1 h2 h3

/-- what l7Reduce returns: the reduced form, the other rows 0, and the columns -/
def RetL7 (w : World) (P : Int) (R C : Nat) (M0 : Nat → Nat → Int) (e : Ending) (w' : World) : Prop :=
  ∃ (u v : Value) (h : Nat → Int) (n : Nat) (qf : Nat → Nat), e = .returned (.tuple #[.agg #[.int .i64 P, .int .i64 (R : Int), .int .i64 (C : Int), u], v]) ∧
    OwnF w' w.heap.size w'.heap.size 3 u (R * C) (fun t => .int .i64 (h t)) ∧ OwnF w' w.heap.size w'.heap.size 3 v n (fun k => .int .i64 (qf k : Int)) ∧ Below w.heap.size w w' ∧
    n ≤ R ∧ (∀ i c, i < R → c < C → 0 ≤ mf C h i c ∧ mf C h i c < P) ∧ Red P C n (mf C h) qf ∧ (∀ i k, i < k → k < n → qf i < qf k) ∧
    (∀ i c, n ≤ i → i < R → c < C → mf C h i c = 0) ∧ SameSp P C R M0 n (mf C h)

/-- what has been laid up is what is returned -/
theorem l7_fin {w wr : World} {T : TypeId} {P : Int} {R C : Nat} {d : Value} {q : Nat} {p p5 : Option Addr} {k k5 N n j : Nat} {h : Nat → Int} {qf : Nat → Nat} {M0 : Nat → Nat → Int} (hP : 2 ≤ P) (hj : j ≤ C) (hd : j = C ∨ n = R) (hn : n ≤ R) (hN : N = R * C)
    (hrs : RS w T 3 P R C d q p k N h wr) (hpv : OwnF wr (q + 1) wr.heap.size 3 (.slice p5 n k5) n (fun k => .int .i64 (qf k : Int))) (hL : L7I P C R M0 (mf C h) qf n j) :
    RetL7 w P R C M0 (.returned (.tuple #[.agg #[.int .i64 P, .int .i64 (R : Int), .int .i64 (C : Int), .slice p N k], .slice p5 n k5]))
      ((((wr.setCell ⟨w.heap.size + 1, 0, none⟩ (.int .i64 P)).setCell ⟨w.heap.size + 1, 1, none⟩ (.int .i64 (R : Int))).setCell ⟨w.heap.size + 1, 2, none⟩ (.int .i64 (C : Int))).setCell ⟨w.heap.size + 1, 3, none⟩ (.slice p N k)) := by
  obtain ⟨a1, a2, a3, a4, a5, a6⟩ := hrs
  obtain ⟨t1, t2, t3⟩ := hL.done hj hd
  have hq := blk_lt a3
  refine ⟨_, _, h, n, qf, rfl, ?_, ?_, below_set4 a5 (by omega) _ _ _ _, hn, hL.rng, t1, hL.asc, t2, t3⟩
  · subst hN
    exact ((((a4.setCell (.inl (by show w.heap.size + 1 < _; omega)) _).setCell (.inl (by show w.heap.size + 1 < _; omega)) _).setCell (.inl (by show w.heap.size + 1 < _; omega)) _).setCell (.inl (by show w.heap.size + 1 < _; omega)) _).mono (by omega) (by simp only [size_setCell]; omega)
  · exact ((((hpv.setCell (.inl (by show w.heap.size + 1 < _; omega)) _).setCell (.inl (by show w.heap.size + 1 < _; omega)) _).setCell (.inl (by show w.heap.size + 1 < _; omega)) _).setCell (.inl (by show w.heap.size + 1 < _; omega)) _).mono (by omega) (by simp only [size_setCell]; omega)

set_option maxRecDepth 100000 in
set_option maxHeartbeats 8000000 in
theorem l7Reduce_any (P : Int) (R C : Nat) (d : Value) (D : List Int) (w : World) (hd : Ints w d D) (hD : D.length = R * C) (hrg : ∀ t, 0 ≤ D.getD t 0 ∧ D.getD t 0 < P) (hP : primeOk P = true) (hR : R ≤ 14) (hC : C ≤ 14) :
    Calls Try.prog 94 #[.agg #[.int .i64 P, .int .i64 (R : Int), .int .i64 (C : Int), d]] w (RetL7 w P R C (mf C fun t => D.getD t 0)) := by
  obtain ⟨hP2, hP7⟩ := primeOk_range hP
  have hI := Lib.hid hd
  obtain ⟨pd, kd, rfl, ⟨_, mx⟩, _⟩ := hd
  unfold maxLen at mx
  have hRC : R * C ≤ 14 * 14 := Nat.mul_le_mul hR hC
  have hDl : D.length ≤ 196 := by omega
  obtain ⟨z1, z2⟩ := box2_start w 34 34 P R C (.slice pd D.length kd)
  have hB0 := below_alloc2 w (.cells #[.int .i64 P, .int .i64 R, .int .i64 C, .slice pd D.length kd] 34) (.cells #[.int .i64 0, .int .i64 0, .int .i64 0, .slice none 0 0] 34)
  have Z1 := Lib.hid z1
  have Z2 := Lib.hid z2
  have HB0 := Lib.hid hB0
  have HP := Lib.hid hP
  have HD := Lib.hid hD
  have Hrg := Lib.hid hrg
  clear z1 z2 hB0 hP hD hrg
  go_enter Try.func94, Try.ntmps94
  go_wp2_with fail
  have hs0 : ((w.alloc (.cells #[.int .i64 P, .int .i64 R, .int .i64 C, .slice pd D.length kd] 34)).alloc (.cells #[.int .i64 0, .int .i64 0, .int .i64 0, .slice none 0 0] 34)).heap.size = w.heap.size + 1 + 1 := by simp
  generalize (w.alloc (.cells #[.int .i64 P, .int .i64 R, .int .i64 C, .slice pd D.length kd] 34)).alloc (.cells #[.int .i64 0, .int .i64 0, .int .i64 0, .slice none 0 0] 34) = w2 at *
  refine (l7Copy_any P R C _ D _ (hI.out.below HB0.out) (by omega)).mono ?_
  rintro e w3 ⟨u, rfl, ho3', hb3⟩
  have ho3 : OwnI 3 w3 w2.heap.size w3.heap.size u D := ho3'
  clear ho3'
  obtain ⟨p, k, rfl, hk1, hk2⟩ := ho3.shape
  unfold maxLen at hk2
  have hs3 := hb3.size
  have hRS : RS w 34 3 P R C (.slice pd D.length kd) w3.heap.size p k D.length (fun t => D.getD t 0) ((w3.alloc (.cells #[.int .i64 P, .int .i64 R, .int .i64 C, .slice p D.length k] 34)).alloc (.cells #[] 3)) := by
    have hb4 := below_alloc2 w3 (.cells #[.int .i64 P, .int .i64 R, .int .i64 C, .slice p D.length k] 34) (.cells #[] 3)
    have hb5 : Below w2.heap.size w2 ((w3.alloc (.cells #[.int .i64 P, .int .i64 R, .int .i64 C, .slice p D.length k] 34)).alloc (.cells #[] 3)) := hb3.trans (hb4.mono hs3)
    refine ⟨blk_later Z1.out hb5, blk_later Z2.out hb5, ?_, ?_, HB0.out.trans (hb5.mono (by omega)), by omega⟩
    · rw [heap_alloc_low _ _ (by simp)]; exact heap_alloc_top _ _
    · exact ((ho3.below hb4).fn).mono (by omega) (Nat.le_refl _)
  have HRS := Lib.hid hRS
  clear hRS ho3
  go_wp2_with fail
  go_loopg [5, 6] C (fun g s5 s6 wr => ∃ (j n : Nat) (qf : Nat → Nat) (h : Nat → Int), j ≤ C ∧ g = C - j ∧ s6 = .int .i64 j ∧ n ≤ R ∧
    Hid (RS w 34 3 P R C (.slice pd D.length kd) w3.heap.size p k D.length h wr) ∧ Hid (OwnF wr (w3.heap.size + 1) wr.heap.size 3 s5 n (fun k => .int .i64 (qf k : Int))) ∧
    Hid (L7I P C R (mf C fun t => D.getD t 0) (mf C h) qf n j))
  case atStart =>
    refine ⟨0, 0, fun _ => 0, fun t => D.getD t 0, Nat.zero_le _, rfl, rfl, Nat.zero_le _, HRS.out, ?_, L7I.start fun i c _ _ => Hrg.out _⟩
    have := OwnF.made0 (w3.alloc (.cells #[.int .i64 P, .int .i64 R, .int .i64 C, .slice p D.length k] 34)) 3 (fun k => .int .i64 ((0 : Nat) : Int))
    simp only [size_alloc] at this
    refine Lib.hid (this.mono (Nat.le_refl _) ?_)
    simp
  case round =>
    obtain ⟨j, n, qf, h, hj, rfl, rfl, hn, hrs, hpv, hL⟩ := hrel
    clear HRS
    obtain ⟨p5, k5, rfl, hk5, hk5b, _⟩ := hpv.out.shape
    unfold maxLen at hk5b
    obtain ⟨m0, m1, m2, m3, mf', mz⟩ := blk4 hrs.out.1
    by_cases hjC : j < C
    · by_cases hnR : n < R
      · have hrow : ∀ i c, i < R → c < C → i * C + c < D.length := fun i c hi hc => by
          have := mul_le_of (C := C) hi
          rw [Nat.add_mul, Nat.one_mul, ← HD.out] at this
          omega
        have hD0 : 0 < D.length := by have := hrow n j hnR hjC; omega
        obtain ⟨g, rfl, hg1, hg2, hg3⟩ := hrs.out.2.2.2.1.at_ hD0
        have hne1 : w.heap.size ≠ g := by omega
        have hne2 : w3.heap.size ≠ g := by omega
        obtain ⟨wo, rfl⟩ : ∃ x : World, x = wr := ⟨_, rfl⟩
        have hq3 : w3.heap.size < wo.heap.size := blk_lt hrs.out.2.2.1
        have hrt : RT w 34 3 P R C (.slice pd D.length kd) w3.heap.size (some ⟨g, 0, none⟩) k D.length wo.heap.size (.slice p5 n k5) n qf h wo := ⟨hrs.out, hpv.out, Nat.le_refl _⟩
        have Hrt := Lib.hid hrt
        have Hrow := Lib.hid hrow
        clear hrs hpv hrt hrow
        go_wp2_with fail
        clear m0 m1 m2 m3 mf' mz
        go_loopg [7] (R - n) (fun gg s7 wr => ∃ a : Nat, n ≤ a ∧ a ≤ R ∧ gg = R - a ∧ s7 = .int .i64 a ∧ Hid (Below wo.heap.size wo wr) ∧ Hid (∀ i, n ≤ i → i < a → mf C h i j = 0))
        case atStart => exact ⟨n, Nat.le_refl _, by omega, rfl, rfl, Below.refl _ _, fun i h1 h2 => absurd h1 (by omega)⟩
        case round =>
          obtain ⟨a, hna, haR, rfl, rfl, hbx, hz⟩ := hrel
          obtain ⟨wx, rfl⟩ : ∃ x : World, x = wr := ⟨_, rfl⟩
          have Hrx := Lib.hid (Hrt.out.later hbx.out)
          obtain ⟨m0, m1, m2, m3, mf', mz⟩ := blk4 Hrx.out.1.1
          obtain ⟨o0, o1, o2, o3, of, oz⟩ := blk4 Hrx.out.1.2.2.1
          by_cases haR2 : a < R
          · have hT := Hrow.out a j haR2 hjC
            have CA := Lib.hid (l7At_h P R C a j (some ⟨g, 0, none⟩) k D.length h wx Hrx.out.1.ints (by omega) hT)
            obtain ⟨y, hy⟩ : ∃ y, y = h (a * C + j) := ⟨_, rfl⟩
            have CA' : Hid (Calls Try.prog 90 #[.agg #[.int .i64 P, .int .i64 (R : Int), .int .i64 (C : Int), .slice (some ⟨g, 0, none⟩) D.length k], .int .i64 (a : Int), .int .i64 (j : Int)] wx fun e w' =>
              e = .returned (.int .i64 y) ∧ Below wx.heap.size wx w') := by rw [hy]; exact CA.out
            have hyr := hL.out.rng a j haR2 hjC
            unfold mf at hyr
            rw [← hy] at hyr
            have Hy := Lib.hid hy
            clear CA hT hy
            by_cases hy0 : y = 0
            · subst hy0
              go_wp2_with fail
              refine CA'.out.mono ?_
              rintro e wy ⟨rfl, hby⟩
              have Hby := Lib.hid (hbx.out.trans (hby.mono hbx.out.size))
              clear hby m0 m1 m2 m3 mf' mz o0 o1 o2 o3 of oz
              go_wp2_with fail
              go_roundg (R - (a + 1))
              case measure => omega
              case rel =>
                refine ⟨a + 1, by omega, by omega, rfl, by go_num, Hby.out, fun i h1 h2 => ?_⟩
                by_cases e : i = a
                · subst e; exact Hy.out.symm
                · exact hz.out i h1 (by omega)
            · have hy0' : (y == 0) = false := by simpa using hy0
              have haR3 : ((a : Int) == (R : Int)) = false := by simp; omega
              go_wp2_with fail
              refine CA'.out.mono ?_
              rintro e wy ⟨rfl, hby⟩
              have Hry := Lib.hid (Hrx.out.later hby)
              clear hby m0 m1 m2 m3 mf' mz o0 o1 o2 o3 of oz Hrx CA'
              obtain ⟨m0, m1, m2, m3, mf', mz⟩ := blk4 Hry.out.1.1
              go_wp2_with fail
              clear m0 m1 m2 m3 mf' mz hy0' haR3
              go_loopg [9, 10] C (fun gg s9 s10 wr => ∃ (c : Nat) (h' : Nat → Int), c ≤ C ∧ gg = C - c ∧ s9 = .int .i64 c ∧
                Hid (RT w 34 3 P R C (.slice pd D.length kd) w3.heap.size (some ⟨g, 0, none⟩) k D.length wo.heap.size (.slice p5 n k5) n qf h' wr) ∧
                Hid (∀ i c', i < R → c' < C → mf C h' i c' = if c' < c then swM a n (mf C h) i c' else mf C h i c'))
              case atStart => exact ⟨0, h, Nat.zero_le _, rfl, rfl, Hry.out, fun i c' _ _ => by rw [if_neg (Nat.not_lt_zero _)]⟩
              case round =>
                obtain ⟨c, h', hc, rfl, rfl, hrt, hval⟩ := hrel
                obtain ⟨wa, rfl⟩ : ∃ x : World, x = wr := ⟨_, rfl⟩
                obtain ⟨m0, m1, m2, m3, mf', mz⟩ := blk4 hrt.out.1.1
                obtain ⟨o0, o1, o2, o3, of, oz⟩ := blk4 hrt.out.1.2.2.1
                by_cases hcC : c < C
                ·
                  have hT1 := Hrow.out a c haR2 hcC
                  have hT2 := Hrow.out n c hnR hcC
                  obtain ⟨x1, hx1⟩ : ∃ x1, x1 = mf C h' a c := ⟨_, rfl⟩
                  obtain ⟨x2, hx2⟩ : ∃ x2, x2 = mf C h' n c := ⟨_, rfl⟩
                  have CA := Lib.hid (l7At_b P R C a c (some ⟨g, 0, none⟩) k D.length h' x1 hx1 (by omega) hT1)
                  have CB := Lib.hid (l7At_b P R C n c (some ⟨g, 0, none⟩) k D.length h' x2 hx2 (by omega) hT2)
                  have Hx1 := Lib.hid hx1
                  have Hx2 := Lib.hid hx2
                  obtain ⟨K1, hK1, r1, r2⟩ := mul_named a C (by have := Nat.mul_le_mul (show a ≤ 14 by omega) hC; omega)
                  obtain ⟨K2, hK2, r3, r4⟩ := mul_named n C (by have := Nat.mul_le_mul (show n ≤ 14 by omega) hC; omega)
                  rw [← hK1] at hT1
                  rw [← hK2] at hT2
                  have HK1 := Lib.hid hK1
                  have HK2 := Lib.hid hK2
                  have R1 := Lib.hid r1
                  have R2 := Lib.hid r2
                  have R3 := Lib.hid r3
                  have R4 := Lib.hid r4
                  clear hx1 hx2 hK1 hK2 r1 r2 r3 r4
                  go_wp2_with fail
                  refine (CA.out wa hrt.out.1.ints).mono ?_
                  rintro e wb ⟨rfl, hb⟩
                  have Hrb := Lib.hid (hrt.out.later hb)
                  clear hb m0 m1 m2 m3 mf' mz o0 o1 o2 o3 of oz
                  obtain ⟨m0, m1, m2, m3, mf', mz⟩ := blk4 Hrb.out.1.1
                  obtain ⟨o0, o1, o2, o3, of, oz⟩ := blk4 Hrb.out.1.2.2.1
                  go_wp2_with fail
                  have b1 : -1000000000000000000 ≤ (K1 : Int) + (c : Int) := by omega
                  have b2 : (K1 : Int) + (c : Int) ≤ 1000000000000000000 := by omega
                  have hi1 : (0 : Int) ≤ (K1 : Int) + c := by omega
                  have hi2 : (K1 : Int) + (c : Int) < (D.length : Int) := by omega
                  have hi3 : ((K1 : Int) + (c : Int)).toNat = K1 + c := by omega
                  have f1 := R1.out
                  have f2 := R2.out
                  have f3 := w64 b1 b2
                  have f4 := k64 b1 b2
                  clear b1 b2
                  go_region_held3 (fun w' => w'.cell? ⟨w.heap.size, 0, none⟩ = some (.int .i64 P) ∧ w'.cell? ⟨w.heap.size, 2, none⟩ = some (.int .i64 (C : Int)) ∧ w'.cell? ⟨w3.heap.size, 0, none⟩ = some (.int .i64 P) ∧ w'.cell? ⟨w3.heap.size, 1, none⟩ = some (.int .i64 (R : Int)) ∧ w'.cell? ⟨w3.heap.size, 2, none⟩ = some (.int .i64 (C : Int)) ∧ w'.cell? ⟨w3.heap.size, 3, none⟩ = some (.slice (some ⟨g, 0, none⟩) D.length k))
                    (first | exact ⟨m0, m2, o0, o1, o2, o3⟩ | exact keep6 hb1 (by assumption) | exact keep6_set hne1 hne2 (by assumption))
                    (first | (go_at_call 90; refine (CB.out _ (Hrb.out.1.later (by first | exact Below.refl _ _ | exact (Below.refl _ _).drew)).ints).mono ?_; rintro e w' ⟨rfl, hb1⟩; have hbz : Below wb.heap.size wb w' := (by first | exact hb1 | exact below_of_drew hb1); obtain ⟨dc, df⟩ := (Hrb.out.1.later hbz).cell hT1))
                  have Hr1 := Lib.hid ((Hrb.out.later hbz).set hD0 (K1 + c) x2)
                  clear f1 f2 f3 f4 hb1 hbz dc df hi1 hi2 hi3 m0 m1 m2 m3 mf' mz o0 o1 o2 o3 of oz Hrb CA CB
                  obtain ⟨m0, m1, m2, m3, mf', mz⟩ := blk4 Hr1.out.1.1
                  obtain ⟨o0, o1, o2, o3, of, oz⟩ := blk4 Hr1.out.1.2.2.1
                  have hT3 := Hrow.out n c hnR hcC
                  obtain ⟨dc, df⟩ := Hr1.out.1.cell hT3
                  go_wp2_with fail
                  go_roundg (C - (c + 1))
                  case measure => omega
                  case rel =>
                    refine ⟨c + 1, _, by omega, rfl, by go_num, Hr1.out.set hD0 (n * C + c) x1, fun i c' hi hc' => ?_⟩
                    rw [mf_set hcC hc', HK1.out, mf_set hcC hc', hval.out i c' hi hc', Hx1.out, Hx2.out, hval.out a c haR2 hcC, hval.out n c hnR hcC, if_neg (Nat.lt_irrefl c), if_neg (Nat.lt_irrefl c)]
                    unfold swM
                    by_cases e : c' = c
                    · subst e
                      simp only [Nat.lt_irrefl, if_false, and_true, show c' < c' + 1 by omega, if_true]
                      by_cases e1 : i = n
                      · subst e1
                        by_cases e2 : i = a
                        · subst e2; simp
                        · simp [e2]
                      · by_cases e2 : i = a
                        · subst e2; simp [e1]
                        · simp [e1, e2]
                    · simp only [e, and_false, if_false]
                      by_cases e3 : c' < c
                      · rw [if_pos e3, if_pos (show c' < c + 1 by omega)]
                      · rw [if_neg e3, if_neg (show ¬ c' < c + 1 by omega)]
                · obtain ⟨M1, hM1⟩ : ∃ M1, M1 = swM a n (mf C h) := ⟨_, rfl⟩
                  have hv1 : ∀ i c', i < R → c' < C → mf C h' i c' = M1 i c' := fun i c' hi hc' => by rw [hval.out i c' hi hc', if_pos (by omega), hM1]
                  have hr1 : ∀ i c', i < R → c' < C → 0 ≤ M1 i c' ∧ M1 i c' < P := fun i c' hi hc' => by rw [hM1]; exact swM_rng hL.out.rng hnR haR2 hi hc'
                  have hx0 : y = mf C h' n j := by
                    rw [hv1 n j hnR hjC, hM1, Hy.out]
                    unfold swM mf
                    by_cases e : n = a
                    · subst e; simp
                    · simp [e]
                  have CA := Lib.hid (l7At_b P R C n j (some ⟨g, 0, none⟩) k D.length h' y hx0 (by omega) (Hrow.out n j hnR hjC))
                  have CI := Lib.hid (fun W => l7Inverse_b y P W HP.out (by omega) hyr.2)
                  have HM1 := Lib.hid hM1
                  have Hv1 := Lib.hid hv1
                  have Hr1 := Lib.hid hr1
                  clear hM1 hv1 hr1 hx0 hval
                  go_wp2_with fail
                  go_region_held3 (fun w' => w'.cell? ⟨w.heap.size, 0, none⟩ = some (.int .i64 P) ∧ w'.cell? ⟨w.heap.size, 2, none⟩ = some (.int .i64 (C : Int)) ∧ w'.cell? ⟨w3.heap.size, 0, none⟩ = some (.int .i64 P) ∧ w'.cell? ⟨w3.heap.size, 1, none⟩ = some (.int .i64 (R : Int)) ∧ w'.cell? ⟨w3.heap.size, 2, none⟩ = some (.int .i64 (C : Int)) ∧ w'.cell? ⟨w3.heap.size, 3, none⟩ = some (.slice (some ⟨g, 0, none⟩) D.length k))
                    (first | exact ⟨m0, m2, o0, o1, o2, o3⟩ | exact keep6 hb1 (by assumption) | exact keep6_set hne1 hne2 (by assumption))
                    (first
                      | (go_at_call 90; refine (CA.out _ (hrt.out.1.later (by first | exact Below.refl _ _ | exact (Below.refl _ _).drew)).ints).mono ?_; rintro e w' ⟨rfl, hb1⟩; have hbz : Below wa.heap.size wa w' := (by first | exact hb1 | exact below_of_drew hb1))
                      | (go_at_call 100; refine (CI.out _).mono ?_; rintro e w' ⟨v, rfl, hva, hvb, hvc, hb1⟩; have hbz : Below wa.heap.size wa w' := (by first | exact below_trans hbz hb1 | exact below_trans hbz (below_of_drew hb1))))
                  have Hrc := Lib.hid (hrt.out.later hbz)
                  have Hvc := Lib.hid hvc
                  clear hb1 hbz hvc m0 m1 m2 m3 mf' mz o0 o1 o2 o3 of oz hrt CA CI
                  obtain ⟨wd, rfl⟩ : ∃ x : World, x = w' := ⟨_, rfl⟩
                  go_wp2_with fail
                  go_loopg [12] C (fun gg s12 wr => ∃ (c : Nat) (h2 : Nat → Int), c ≤ C ∧ gg = C - c ∧ s12 = .int .i64 c ∧ Hid (RT w 34 3 P R C (.slice pd D.length kd) w3.heap.size (some ⟨g, 0, none⟩) k D.length wo.heap.size (.slice p5 n k5) n qf h2 wr) ∧
                    Hid (∀ i c', i < R → c' < C → mf C h2 i c' = if c' < c then scM P v n M1 i c' else M1 i c'))
                  case atStart => exact ⟨0, h', Nat.zero_le _, rfl, rfl, Hrc.out, fun i c' hi hc' => by rw [if_neg (Nat.not_lt_zero _)]; exact Hv1.out i c' hi hc'⟩
                  case round =>
                    obtain ⟨c2, h2, hc2, rfl, rfl, hrt, hval⟩ := hrel
                    obtain ⟨wa, rfl⟩ : ∃ x : World, x = wr := ⟨_, rfl⟩
                    obtain ⟨m0, m1, m2, m3, mf', mz⟩ := blk4 hrt.out.1.1
                    obtain ⟨o0, o1, o2, o3, of, oz⟩ := blk4 hrt.out.1.2.2.1
                    by_cases hc2C : c2 < C
                    ·
                      have hT1 := Hrow.out n c2 hnR hc2C
                      obtain ⟨x, hx⟩ : ∃ x, x = mf C h2 n c2 := ⟨_, rfl⟩
                      have hxM : x = M1 n c2 := by rw [hx, hval.out n c2 hnR hc2C, if_neg (Nat.lt_irrefl _)]
                      have hxr := Hr1.out n c2 hnR hc2C
                      rw [← hxM] at hxr
                      have CA := Lib.hid (l7At_b P R C n c2 (some ⟨g, 0, none⟩) k D.length h2 x hx (by omega) hT1)
                      obtain ⟨K1, hK1, r1, r2⟩ := mul_named n C (by have := Nat.mul_le_mul (show n ≤ 14 by omega) hC; omega)
                      have R1 := Lib.hid r1
                      have R2 := Lib.hid r2
                      clear r1 r2
                      rw [← hK1] at hT1
                      have HK1 := Lib.hid hK1
                      have HxM := Lib.hid hxM
                      clear hx hxM hK1
                      have hm := mul_range (a := 7) (b := 7) hxr.1 (by omega) (show 0 ≤ v by omega) (by omega)
                      obtain ⟨z, hz⟩ : ∃ z, z = x * v := ⟨_, rfl⟩
                      rw [← hz] at hm
                      have hz0 : 0 ≤ z := hm.1
                      have hz49 : z ≤ 49 := hm.2
                      clear hm
                      have Q3 := Lib.hid (rng64 (x := z) (by omega) (by omega))
                      have HZ1 : Hid (wrap64 (x * v) = z) := by have h := Q3.out.1; rw [hz] at h ⊢; exact h
                      have HZ2 : Hid (IntKind.i64.wrap (x * v) = z) := by have h := Q3.out.2; rw [hz] at h ⊢; exact h
                      have HZ := Lib.hid hz
                      clear hz
                      have hp0 : ¬ P = 0 := by omega
                      obtain ⟨rr, hrr⟩ : ∃ rr, rr = z % P := ⟨_, rfl⟩
                      have hrr0 : 0 ≤ rr := by rw [hrr]; exact Int.emod_nonneg _ hp0
                      have hrr1 : rr < P := by rw [hrr]; exact Int.emod_lt_of_pos _ (by omega)
                      have E1 : Hid (Int.tmod z P = rr) := by rw [hrr]; exact Int.tmod_eq_emod_of_nonneg hz0
                      have HR := Lib.hid hrr
                      clear hrr
                      have Q1 := Lib.hid (rng64 (x := (K1 : Int) + (c2 : Int)) (by omega) (by omega))
                      have Q5 := Lib.hid (rng64 (x := rr) (by omega) (by omega))
                      have hi1 : (0 : Int) ≤ (K1 : Int) + c2 := by omega
                      have hi2 : (K1 : Int) + (c2 : Int) < (D.length : Int) := by omega
                      have hi3 : ((K1 : Int) + (c2 : Int)).toNat = K1 + c2 := by omega
                      go_wp2_with fail
                      have f1 := R1.out
                      have f2 := R2.out
                      obtain ⟨f3, f4⟩ := Q1.out
                      have f5 := HZ1.out
                      have f6 := HZ2.out
                      obtain ⟨f7, f8⟩ := Q5.out
                      have f9 := E1.out
                      have f10 := HR.out.symm
                      go_region_held3 (fun w' => w'.cell? ⟨w.heap.size, 0, none⟩ = some (.int .i64 P) ∧ w'.cell? ⟨w.heap.size, 2, none⟩ = some (.int .i64 (C : Int)) ∧ w'.cell? ⟨w3.heap.size, 0, none⟩ = some (.int .i64 P) ∧ w'.cell? ⟨w3.heap.size, 1, none⟩ = some (.int .i64 (R : Int)) ∧ w'.cell? ⟨w3.heap.size, 2, none⟩ = some (.int .i64 (C : Int)) ∧ w'.cell? ⟨w3.heap.size, 3, none⟩ = some (.slice (some ⟨g, 0, none⟩) D.length k))
                        (first | exact ⟨m0, m2, o0, o1, o2, o3⟩ | exact keep6 hb1 (by assumption) | exact keep6_set hne1 hne2 (by assumption))
                        (first | (go_at_call 90; refine (CA.out _ (hrt.out.1.later (by first | exact Below.refl _ _ | exact (Below.refl _ _).drew)).ints).mono ?_; rintro e w' ⟨rfl, hb1⟩; have hbz : Below wa.heap.size wa w' := (by first | exact hb1 | exact below_of_drew hb1); obtain ⟨dc, df⟩ := (hrt.out.1.later hbz).cell hT1))
                      have Hrd := Lib.hid ((hrt.out.later hbz).set hD0 (K1 + c2) rr)
                      clear f1 f2 f3 f4 f5 f6 f7 f8 f9 f10 hb1 hbz dc df hi1 hi2 hi3 m0 m1 m2 m3 mf' mz o0 o1 o2 o3 of oz CA
                      go_wp2_with fail
                      go_roundg (C - (c2 + 1))
                      case measure => omega
                      case rel =>
                        refine ⟨c2 + 1, _, by omega, rfl, by go_num, Hrd.out, fun i c' hi hc' => ?_⟩
                        rw [HK1.out, mf_set hc2C hc', hval.out i c' hi hc', HR.out, HZ.out, HxM.out]
                        unfold scM
                        by_cases e : c' = c2
                        · subst e
                          simp only [Nat.lt_irrefl, if_false, and_true, show c' < c' + 1 by omega, if_true]
                        · simp only [e, and_false, if_false]
                          by_cases e3 : c' < c2
                          · rw [if_pos e3, if_pos (show c' < c2 + 1 by omega)]
                          · rw [if_neg e3, if_neg (show ¬ c' < c2 + 1 by omega)]
                    · obtain ⟨M2, hM2⟩ : ∃ M2, M2 = scM P v n M1 := ⟨_, rfl⟩
                      have hv2 : ∀ i c', i < R → c' < C → mf C h2 i c' = M2 i c' := fun i c' hi hc' => by rw [hval.out i c' hi hc', if_pos (by omega), hM2]
                      have hr2 : ∀ i c', i < R → c' < C → 0 ≤ M2 i c' ∧ M2 i c' < P := fun i c' hi hc' => by rw [hM2]; exact scM_rng hP2 Hr1.out hi hc'
                      have Hrt2 := Lib.hid hrt.out
                      have HM2 := Lib.hid hM2
                      have Hv2 := Lib.hid hv2
                      have Hr2 := Lib.hid hr2
                      clear hM2 hv2 hr2 hval hrt
                      go_wp2_with fail
                      clear m0 m1 m2 m3 mf' mz o0 o1 o2 o3 of oz
                      go_loopg [13] R (fun gg s13 wr => ∃ (i : Nat) (h3 : Nat → Int), i ≤ R ∧ gg = R - i ∧ s13 = .int .i64 i ∧ Hid (RT w 34 3 P R C (.slice pd D.length kd) w3.heap.size (some ⟨g, 0, none⟩) k D.length wo.heap.size (.slice p5 n k5) n qf h3 wr) ∧
                        Hid (∀ i' c', i' < R → c' < C → mf C h3 i' c' = if i' < i then elM P n j M2 i' c' else M2 i' c'))
                      case atStart => exact ⟨0, h2, Nat.zero_le _, rfl, rfl, Hrt2.out, fun i c' hi hc' => by rw [if_neg (Nat.not_lt_zero _)]; exact Hv2.out i c' hi hc'⟩
                      case round =>
                        obtain ⟨i, h3, hi, rfl, rfl, hrt, hval⟩ := hrel
                        obtain ⟨wa, rfl⟩ : ∃ x : World, x = wr := ⟨_, rfl⟩
                        obtain ⟨m0, m1, m2, m3, mf', mz⟩ := blk4 hrt.out.1.1
                        obtain ⟨o0, o1, o2, o3, of, oz⟩ := blk4 hrt.out.1.2.2.1
                        by_cases hiR : i < R
                        ·
                          obtain ⟨x, hx⟩ : ∃ x, x = mf C h3 i j := ⟨_, rfl⟩
                          have hxM : x = M2 i j := by rw [hx, hval.out i j hiR hjC, if_neg (Nat.lt_irrefl _)]
                          have hxr := Hr2.out i j hiR hjC
                          rw [← hxM] at hxr
                          have CA := Lib.hid (l7At_b P R C i j (some ⟨g, 0, none⟩) k D.length h3 x hx (by omega) (Hrow.out i j hiR hjC))
                          have HxM := Lib.hid hxM
                          clear hx hxM
                          go_wp2_with fail
                          refine (CA.out wa hrt.out.1.ints).mono ?_
                          rintro e wb ⟨rfl, hb⟩
                          have Hrb := Lib.hid (hrt.out.later hb)
                          clear hb hrt CA m0 m1 m2 m3 mf' mz o0 o1 o2 o3 of oz
                          go_wp2_with fail
                          go_loopg [15] C (fun gg s15 wr => ∃ (c : Nat) (h4 : Nat → Int), c ≤ C ∧ gg = C - c ∧ s15 = .int .i64 c ∧ Hid (RT w 34 3 P R C (.slice pd D.length kd) w3.heap.size (some ⟨g, 0, none⟩) k D.length wo.heap.size (.slice p5 n k5) n qf h4 wr) ∧
                            Hid (∀ i' c', i' < R → c' < C → mf C h4 i' c' = if i' < i ∨ (i' = i ∧ c' < c) then elM P n j M2 i' c' else M2 i' c'))
                          case atStart => exact ⟨0, h3, Nat.zero_le _, rfl, rfl, Hrb.out, fun i' c' hi' hc' => by rw [hval.out i' c' hi' hc']; simp⟩
                          case round =>
                            obtain ⟨c3, h4, hc3, rfl, rfl, hrt, hval4⟩ := hrel
                            obtain ⟨wa, rfl⟩ : ∃ x : World, x = wr := ⟨_, rfl⟩
                            obtain ⟨m0, m1, m2, m3, mf', mz⟩ := blk4 hrt.out.1.1
                            obtain ⟨o0, o1, o2, o3, of, oz⟩ := blk4 hrt.out.1.2.2.1
                            by_cases hin : i = n
                            · have hinb : ((i : Int) != (n : Int)) = false := by simp [hin]
                              have hval5 : ∀ i' c', i' < R → c' < C → mf C h4 i' c' = if i' < i + 1 then elM P n j M2 i' c' else M2 i' c' := fun i' c' hi' hc' => by
                                rw [hval4.out i' c' hi' hc']
                                by_cases e : i' = i
                                · subst e
                                  rw [if_pos (show i' < i' + 1 by omega)]
                                  have : elM P n j M2 i' c' = M2 i' c' := by unfold elM; rw [if_pos hin, hin]
                                  rw [this, ite_self]
                                · by_cases e2 : i' < i
                                  · rw [if_pos (.inl e2), if_pos (show i' < i + 1 by omega)]
                                  · rw [if_neg (fun h => h.elim e2 fun h => e h.1), if_neg (show ¬ i' < i + 1 by omega)]
                              have Hval5 := Lib.hid hval5
                              clear hval5 hval4 hin
                              go_wp2_with fail
                              all_goals go_roundg (R - (i + 1))
                              all_goals first
                                | exact ⟨i + 1, h4, by omega, rfl, by go_num, hrt.out, Hval5.out⟩
                                | omega
                            · by_cases hc3C : c3 < C
                              · have hinb : ((i : Int) != (n : Int)) = true := by simp; omega
                                have hT1 := Hrow.out i c3 hiR hc3C
                                have hT2 := Hrow.out n c3 hnR hc3C
                                obtain ⟨x1, hx1⟩ : ∃ x, x = mf C h4 i c3 := ⟨_, rfl⟩
                                obtain ⟨x2, hx2⟩ : ∃ x, x = mf C h4 n c3 := ⟨_, rfl⟩
                                have hx1M : x1 = M2 i c3 := by rw [hx1, hval4.out i c3 hiR hc3C, if_neg (fun h => h.elim (Nat.lt_irrefl _) fun h => Nat.lt_irrefl _ h.2)]
                                have hx2M : x2 = M2 n c3 := by
                                  rw [hx2, hval4.out n c3 hnR hc3C]
                                  have : elM P n j M2 n c3 = M2 n c3 := by unfold elM; rw [if_pos rfl]
                                  rw [this, ite_self]
                                have hx1r := Hr2.out i c3 hiR hc3C
                                have hx2r := Hr2.out n c3 hnR hc3C
                                rw [← hx1M] at hx1r
                                rw [← hx2M] at hx2r
                                have CA := Lib.hid (l7At_b P R C i c3 (some ⟨g, 0, none⟩) k D.length h4 x1 hx1 (by omega) hT1)
                                have CB := Lib.hid (l7At_b P R C n c3 (some ⟨g, 0, none⟩) k D.length h4 x2 hx2 (by omega) hT2)
                                obtain ⟨K1, hK1, r1, r2⟩ := mul_named i C (by have := Nat.mul_le_mul (show i ≤ 14 by omega) hC; omega)
                                have R1 := Lib.hid r1
                                have R2 := Lib.hid r2
                                clear r1 r2
                                rw [← hK1] at hT1
                                have HK1 := Lib.hid hK1
                                have Hx1M := Lib.hid hx1M
                                have Hx2M := Lib.hid hx2M
                                clear hx1 hx2 hx1M hx2M hK1 hT2
                                have hm := mul_range (a := 7) (b := 7) (show 0 ≤ P - x by omega) (show P - x ≤ 7 by omega) hx2r.1 (by omega)
                                have Q2 := Lib.hid (rng64 (x := P - x) (by omega) (by omega))
                                obtain ⟨z, hz⟩ : ∃ z, z = (P - x) * x2 := ⟨_, rfl⟩
                                rw [← hz] at hm
                                have hz0 : 0 ≤ z := hm.1
                                have hz49 : z ≤ 49 := hm.2
                                clear hm
                                have Q3 := Lib.hid (rng64 (x := z) (by omega) (by omega))
                                have HZ1 : Hid (wrap64 ((P - x) * x2) = z) := by have h := Q3.out.1; rw [hz] at h ⊢; exact h
                                have HZ2 : Hid (IntKind.i64.wrap ((P - x) * x2) = z) := by have h := Q3.out.2; rw [hz] at h ⊢; exact h
                                have HZ := Lib.hid hz
                                clear hz
                                have hp0 : ¬ P = 0 := by omega
                                have hs0 : 0 ≤ x1 + z := by omega
                                obtain ⟨rr, hrr⟩ : ∃ rr, rr = (x1 + z) % P := ⟨_, rfl⟩
                                have hrr0 : 0 ≤ rr := by rw [hrr]; exact Int.emod_nonneg _ hp0
                                have hrr1 : rr < P := by rw [hrr]; exact Int.emod_lt_of_pos _ (by omega)
                                have E1 : Hid (Int.tmod (x1 + z) P = rr) := by rw [hrr]; exact Int.tmod_eq_emod_of_nonneg hs0
                                have HR := Lib.hid hrr
                                clear hrr
                                have Q1 := Lib.hid (rng64 (x := (K1 : Int) + (c3 : Int)) (by omega) (by omega))
                                have Q4 := Lib.hid (rng64 (x := x1 + z) (by omega) (by omega))
                                have Q5 := Lib.hid (rng64 (x := rr) (by omega) (by omega))
                                have hi1 : (0 : Int) ≤ (K1 : Int) + c3 := by omega
                                have hi2 : (K1 : Int) + (c3 : Int) < (D.length : Int) := by omega
                                have hi3 : ((K1 : Int) + (c3 : Int)).toNat = K1 + c3 := by omega
                                go_wp2_with fail
                                have f1 := R1.out
                                have f2 := R2.out
                                obtain ⟨f3, f4⟩ := Q1.out
                                obtain ⟨f5, f6⟩ := Q2.out
                                have f7 := HZ1.out
                                have f8 := HZ2.out
                                obtain ⟨f9, f10⟩ := Q4.out
                                obtain ⟨f11, f12⟩ := Q5.out
                                have f13 := E1.out
                                have f14 := HR.out.symm
                                go_region_held3 (fun w' => w'.cell? ⟨w.heap.size, 0, none⟩ = some (.int .i64 P) ∧ w'.cell? ⟨w.heap.size, 2, none⟩ = some (.int .i64 (C : Int)) ∧ w'.cell? ⟨w3.heap.size, 0, none⟩ = some (.int .i64 P) ∧ w'.cell? ⟨w3.heap.size, 1, none⟩ = some (.int .i64 (R : Int)) ∧ w'.cell? ⟨w3.heap.size, 2, none⟩ = some (.int .i64 (C : Int)) ∧ w'.cell? ⟨w3.heap.size, 3, none⟩ = some (.slice (some ⟨g, 0, none⟩) D.length k))
                                  (first | exact ⟨m0, m2, o0, o1, o2, o3⟩ | exact keep6 hb1 (by assumption) | exact keep6_set hne1 hne2 (by assumption))
                                  (first
                                    | (go_at_call_of 90 (Value.int .i64 (i : Int)); refine (CA.out _ (hrt.out.1.later (by first | exact hbz | exact hbz.drew | exact Below.refl _ _ | exact (Below.refl _ _).drew)).ints).mono ?_; rintro e w' ⟨rfl, hb1⟩; have hbz : Below wa.heap.size wa w' := (by first | exact below_trans hbz hb1 | exact below_trans hbz (below_of_drew hb1) | exact hb1 | exact below_of_drew hb1); obtain ⟨dc, df⟩ := (hrt.out.1.later hbz).cell hT1)
                                    | (go_at_call_of 90 (Value.int .i64 (n : Int)); refine (CB.out _ (hrt.out.1.later (by first | exact hbz | exact hbz.drew | exact Below.refl _ _ | exact (Below.refl _ _).drew)).ints).mono ?_; rintro e w' ⟨rfl, hb1⟩; have hbz : Below wa.heap.size wa w' := (by first | exact below_trans hbz hb1 | exact below_trans hbz (below_of_drew hb1) | exact hb1 | exact below_of_drew hb1); obtain ⟨dc, df⟩ := (hrt.out.1.later hbz).cell hT1))
                                have Hrd := Lib.hid ((hrt.out.later hbz).set hD0 (K1 + c3) rr)
                                clear f1 f2 f3 f4 f5 f6 f7 f8 f9 f10 f11 f12 f13 f14 hb1 hbz dc df hi1 hi2 hi3 m0 m1 m2 m3 mf' mz o0 o1 o2 o3 of oz CA CB
                                go_wp2_with fail
                                go_roundg (C - (c3 + 1))
                                case measure => omega
                                case rel =>
                                  refine ⟨c3 + 1, _, by omega, rfl, by go_num, Hrd.out, fun i' c' hi' hc' => ?_⟩
                                  rw [HK1.out, mf_set hc3C hc', hval4.out i' c' hi' hc', HR.out, HZ.out, Hx1M.out, Hx2M.out, HxM.out]
                                  by_cases e : i' = i ∧ c' = c3
                                  · obtain ⟨ea, eb⟩ := e
                                    subst ea eb
                                    rw [if_pos ⟨rfl, rfl⟩, if_pos (.inr ⟨rfl, Nat.lt_succ_self _⟩)]
                                    unfold elM
                                    rw [if_neg hin]
                                  · rw [if_neg e]
                                    by_cases e2 : i' < i ∨ (i' = i ∧ c' < c3)
                                    · rw [if_pos e2, if_pos (e2.imp id fun h => ⟨h.1, by omega⟩)]
                                    · rw [if_neg e2, if_neg fun h => e2 (h.imp id fun h => ⟨h.1, by
                                        rcases Nat.lt_or_ge c' c3 with h5 | h5
                                        · exact h5
                                        · exact absurd ⟨h.1, by omega⟩ e⟩)]
                              · have hval5 : ∀ i' c', i' < R → c' < C → mf C h4 i' c' = if i' < i + 1 then elM P n j M2 i' c' else M2 i' c' := fun i' c' hi' hc' => by
                                  rw [hval4.out i' c' hi' hc']
                                  by_cases e : i' < i + 1
                                  · rw [if_pos e]
                                    by_cases e2 : i' < i
                                    · rw [if_pos (.inl e2)]
                                    · rw [if_pos (.inr ⟨by omega, by omega⟩)]
                                  · rw [if_neg e, if_neg (fun h => h.elim (fun h => by omega) fun h => by omega)]
                                have Hval5 := Lib.hid hval5
                                clear hval5 hval4
                                go_wp2_with fail
                                go_roundg (R - (i + 1))
                                case measure => omega
                                case rel => exact ⟨i + 1, h4, by omega, rfl, by go_num, hrt.out, Hval5.out⟩
                        · have hval5 : ∀ i' c', i' < R → c' < C → elM P n j M2 i' c' = mf C h3 i' c' := fun i' c' hi' hc' => by rw [hval.out i' c' hi' hc', if_pos (by omega)]
                          have Hval5 := Lib.hid hval5
                          have Hpv := Lib.hid hrt.out.2.1
                          have hhi := hrt.out.2.2
                          have hsw := hrt.out.1.2.2.2.2.1.size
                          have hwq := hrt.out.1.2.2.2.2.2
                          have Hbd1 := Lib.hid (show n + 1 ≤ maxLen by unfold maxLen; omega)
                          have Hbd2 := Lib.hid (show (n + 1) * 8 ≤ 140737488355328 by omega)
                          clear hval5 hval
                          go_wp2_with (at_builtin; go_must (refine wpList_append_F rfl (.tmp 164) (.tmp 166) 24 rfl 3 (.int .i64 0) 8 Try.underlying24 info_int rfl (w3.heap.size + 1) wo.heap.size _ n (fun k => .int .i64 (qf k : Int)) rfl (Hpv.out.below (below_alloc _ _)) (by simp; omega) (by simp; omega) _ _ _ rfl (rd_one _ _ _ rfl) (fun j _ => rfl) Hbd1.out Hbd2.out ?_; intro v' w' ho' hg'))
                          go_roundg (C - (j + 1))
                          case measure => omega
                          case rel =>
                            have hrsa := hrt.out.1.later (below_alloc wa (.cells #[.int .i64 (j : Int)] 3))
                            refine ⟨j + 1, n + 1, fun k => if k < n then qf k else j, h3, by omega, rfl, by go_num, by omega, ?_, ?_, ?_⟩
                            · refine hrsa.keep (fun b hb hb2 => hg'.block b hb2 fun e => ?_) (hrsa.2.2.2.2.1.trans (grownBy_below hg' Hpv.out.blocks (by omega) (by simp; omega)))
                              have := (Hpv.out.blocks b e.symm).1
                              omega
                            · exact ho'.congr fun t _ => by
                                by_cases e : t < n
                                · simp only [e, if_true]
                                · simp only [e, if_false]
                            · refine L7I.congr (by omega) (hL.out.step (v := v) (a := a) hP2 hjC hna haR2 ?_) fun i' c' hi' hc' => ?_
                              · unfold mf; rw [← Hy.out]; exact Hvc.out
                              · rw [← HM1.out, ← HM2.out]; exact Hval5.out i' c' hi' hc'
          · obtain rfl : a = R := by omega
            go_wp2_with fail
            clear m0 m1 m2 m3 mf' mz o0 o1 o2 o3 of oz
            go_roundg (C - (j + 1))
            case measure => omega
            case rel =>
              exact ⟨j + 1, n, qf, h, by omega, rfl, by go_num, hn, Hrx.out.1, Hrx.out.2.1.mono (Nat.le_refl _) Hrx.out.2.2, hL.out.skip hz.out⟩
      · have hn2 : n = R := by omega
        have hfin := l7_fin hP2 hj (.inr hn2) hn HD.out hrs.out hpv.out hL.out
        obtain ⟨o0, o1, o2, o3, of, oz⟩ := blk4 hrs.out.2.2.1
        obtain ⟨r0, r1, r2, r3, rf, rz⟩ := blk4 hrs.out.2.1
        obtain ⟨f0, f1, f2, f3, ff, fz⟩ := blk4 (set4_all hrs.out.2.1 (.int .i64 P) (.int .i64 (R : Int)) (.int .i64 (C : Int)) (.slice p D.length k))
        have Hfin := Lib.hid hfin
        clear hfin
        go_wp2_with fail
        exact bodyPost_ret (v := .tuple #[.agg #[.int .i64 P, .int .i64 (R : Int), .int .i64 (C : Int), .slice p D.length k], .slice p5 n k5]) (by simp [results, Try.results94, go_sem, f0, f1, f2, f3, fz]) rfl Hfin.out
    · have hj2 : j = C := by omega
      have hfin := l7_fin hP2 hj (.inl hj2) hn HD.out hrs.out hpv.out hL.out
      obtain ⟨o0, o1, o2, o3, of, oz⟩ := blk4 hrs.out.2.2.1
      obtain ⟨r0, r1, r2, r3, rf, rz⟩ := blk4 hrs.out.2.1
      obtain ⟨f0, f1, f2, f3, ff, fz⟩ := blk4 (set4_all hrs.out.2.1 (.int .i64 P) (.int .i64 (R : Int)) (.int .i64 (C : Int)) (.slice p D.length k))
      have Hfin := Lib.hid hfin
      clear hfin
      go_wp2_with fail
      exact bodyPost_ret (v := .tuple #[.agg #[.int .i64 P, .int .i64 (R : Int), .int .i64 (C : Int), .slice p D.length k], .slice p5 n k5]) (by simp [results, Try.results94, go_sem, f0, f1, f2, f3, fz]) rfl Hfin.out

end Go.Proofs.Ytoodgbflaaabmaa

namespace Go.Proofs.Ytoodgbflaaabmaa
set_option linter.all false
open Go.RowKit

theorem ints_at {w : World} {v : Value} {rows : List (List Int)} {f : Nat → Value} (h : ∀ i, i < rows.length → Ints w (f i) (rows.getD i [])) {i : Nat} (hi : i < rows.length) :
    ∃ p cap, f i = .slice p (rows.getD i []).length cap ∧ (rows.getD i []).length ≤ cap ∧ cap ≤ maxLen := by
  obtain ⟨p, cap, e, ⟨h1, h2⟩, _⟩ := h i hi
  exact ⟨p, cap, e, h1, h2⟩

theorem keep2 {wr W W' : World} {a0 a1 : Addr} {v0 v1 : Value} (hb : Below W.heap.size W W') (h : (W.cell? a0 = some v0 ∧ W.cell? a1 = some v1) ∧ Below wr.heap.size wr W) :
    (W'.cell? a0 = some v0 ∧ W'.cell? a1 = some v1) ∧ Below wr.heap.size wr W' := ⟨⟨cell_below hb h.1.1, cell_below hb h.1.2⟩, below_trans h.2 hb⟩

/-- two lists of lists are the same row by row -/
theorem rows_eq {xs ys : List (List Int)} (hl : xs.length = ys.length) (h : ∀ j, j < xs.length → xs.getD j [] = ys.getD j []) : xs = ys := by
  apply List.ext_getElem hl
  intro i h1 h2
  have := h i h1
  simpa [List.getD_eq_getElem?_getD, h1, h2] using this

/-- slices of different types lie in different blocks -/
theorem own_types {Ts Ti : TypeId} {w : World} {lo hi lo1 hi1 n : Nat} {v y : Value} {f : Nat → Value} {ys : List Int} (g1 : OwnF w lo hi Ts v n f) (hy : OwnI Ti w lo1 hi1 y ys) (hT : Ts ≠ Ti)
    {k : Nat} (hv : v.ownBlock = some k) (hk : y.ownBlock = some k) : False := by
  obtain ⟨zs, hz, _⟩ := g1
  rcases Own.row hz with ⟨e1, _⟩ | ⟨g, cap', F, e1, _, _, _, _, hr, _⟩
  · rw [e1] at hv; simp [Value.ownBlock] at hv
  · rw [e1] at hv
    simp only [Value.ownBlock, Option.some.injEq] at hv
    subst hv
    rcases Own.row hy with ⟨e2, _⟩ | ⟨g', cap2, F2, e2, _, _, _, _, hr2, _⟩
    · rw [e2] at hk; simp [Value.ownBlock] at hk
    · rw [e2] at hk
      simp only [Value.ownBlock, Option.some.injEq] at hk
      subst hk
      obtain ⟨c, hc, _⟩ := hr
      obtain ⟨c2, hc2, _⟩ := hr2
      rw [hc] at hc2
      injection hc2 with hc2
      injection hc2 with _ hc2
      exact hT hc2
/-- an owned slice lies in its own block, or in none -/
theorem OwnI.tight {T : TypeId} {w : World} {lo hi : Nat} {v : Value} {xs : List Int} (h : OwnI T w lo hi v xs) :
    ∃ lo' hi', OwnI T w lo' hi' v xs ∧ (∀ k, lo' ≤ k → k < hi' → v.ownBlock = some k ∧ lo ≤ k ∧ k < hi) := by
  obtain ⟨⟨hl, hr⟩, hh⟩ := h
  rcases hr with ⟨rfl, h0⟩ | ⟨g, cap, cur, rfl, hg, r⟩
  · exact ⟨0, 0, ⟨⟨hl, .inl ⟨rfl, h0⟩⟩, fun k hk => by simp [Value.ownBlock] at hk⟩, fun k h1 h2 => absurd h2 (Nat.not_lt_zero _)⟩
  · refine ⟨g, g + 1, ⟨⟨hl, .inr ⟨g, cap, cur, rfl, Nat.le_refl _, r⟩⟩, fun k hk => by simp [Value.ownBlock] at hk; omega⟩, fun k h1 h2 => ?_⟩
    obtain rfl : k = g := by omega
    exact ⟨rfl, hg, hh k rfl⟩

theorem OwnI.widen {T : TypeId} {w : World} {lo hi lo' hi' : Nat} {v : Value} {xs : List Int} (h : OwnI T w lo' hi' v xs) (hin : ∀ k, v.ownBlock = some k → lo ≤ k ∧ k < hi) : OwnI T w lo hi v xs := by
  obtain ⟨⟨hl, hr⟩, hh⟩ := h
  rcases hr with ⟨rfl, h0⟩ | ⟨g, cap, cur, rfl, hg, r⟩
  · exact ⟨⟨hl, .inl ⟨rfl, h0⟩⟩, fun k hk => by simp [Value.ownBlock] at hk⟩
  · exact ⟨⟨hl, .inr ⟨g, cap, cur, rfl, (hin g rfl).1, r⟩⟩, fun k hk => (hin k hk).2⟩
theorem OwnI.besides {T : TypeId} {w w' : World} {lo hi lo' hi' : Nat} {v : Value} {xs : List Int} (h : OwnI T w lo hi v xs) (hf : Frm lo' hi' w w') (hne : ∀ b, v.ownBlock = some b → b < lo' ∨ hi' ≤ b) : OwnI T w' lo hi v xs :=
  ⟨ownsRow_of_block h.1 fun b hb => hf.block b (Own.block h hb).2.2 (hne b hb), h.2⟩
theorem OwnF.besides {T : TypeId} {w w' : World} {lo hi lo' hi' n : Nat} {v : Value} {f : Nat → Value} (h : OwnF w lo hi T v n f) (hf : Frm lo' hi' w w') (hne : ∀ b, v.ownBlock = some b → b < lo' ∨ hi' ≤ b) : OwnF w' lo hi T v n f := by
  obtain ⟨xs, h, hx⟩ := h
  exact ⟨xs, ⟨ownsRow_of_block h.1 fun b hb => hf.block b (Own.block h hb).2.2 (hne b hb), h.2⟩, hx⟩

/-- how many numbers the first k rows have -/
def pre (rows : List (List Int)) (k : Nat) : Nat := (rows.take k).flatten.length
theorem pre_zero (rows : List (List Int)) : pre rows 0 = 0 := by simp [pre]
theorem pre_succ (rows : List (List Int)) (k : Nat) (h : k < rows.length) : pre rows (k + 1) = pre rows k + (rows.getD k []).length := by
  have e : rows[k]? = some (rows.getD k []) := by rw [List.getD_eq_getElem?_getD, List.getElem?_eq_getElem h]; rfl
  unfold pre
  rw [List.take_add_one, List.flatten_append, List.length_append, e]
  simp only [Option.toList, List.flatten_cons, List.flatten_nil, List.append_nil]
theorem pre_le (rows : List (List Int)) (k : Nat) : pre rows k ≤ rows.flatten.length := by
  have e : rows.flatten.length = (rows.take k).flatten.length + (rows.drop k).flatten.length := by
    rw [← List.length_append, ← List.flatten_append, List.take_append_drop]
  unfold pre; omega
theorem pre_all (rows : List (List Int)) : pre rows rows.length = rows.flatten.length := by simp [pre]
/-- the rows, written over by m, m+1, .. -/
def runsII (m : Int) (rows : List (List Int)) : List (List Int) := (List.range rows.length).map fun i => runs (m + pre rows i) (rows.getD i []).length
theorem length_runsII (m : Int) (rows : List (List Int)) : (runsII m rows).length = rows.length := by simp [runsII]
theorem getD_runsII (m : Int) (rows : List (List Int)) {i : Nat} (h : i < rows.length) : (runsII m rows).getD i [] = runs (m + pre rows i) (rows.getD i []).length := by
  simp [runsII, List.getD_eq_getElem?_getD, h]

end Go.Proofs.Ytoodgbflaaabmaa
