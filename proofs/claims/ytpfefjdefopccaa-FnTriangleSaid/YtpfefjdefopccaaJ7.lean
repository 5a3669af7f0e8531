/-
  The span, on both sides.
  l1Same, slices.Equal, l7Same.
  IsSpace, on both sides.
  For regions that draw their order: append as a step; what is kept of two boxes and the result's cell.
  Two spaces: l7Two, fitTogether, l7Both.
  The rows of two matrices, one behind the other: l7Both.
  SumSpaces, on both sides.
  append(x, make([]int, m)...) on a slice that the call made: laws over any program.
  l7Corner, CornerRank. (DRAFT)
  What two spaces have in common: the plain law.
-/
import Derived.Test.YtpfefjdefopccaaJ5
import Derived.Test.YtpfefjdefopccaaJ1
import Derived.Test.YtpfefjdefopccaaJ4
import Derived.Test.YtpfefjdefopccaaJ2
import Derived.Test.YtpfefjdefopccaaJ6
namespace Go.Proofs.Ytpfefjdefopccaa
set_option linter.all false
open Go.RowKit

/-- n rows of C numbers, one behind the other -/
def flatM (n C : Nat) (M : Nat → Nat → Int) : List Int := (List.range (n * C)).map fun t => M (t / C) (t % C)
theorem flatM_length (n C : Nat) (M : Nat → Nat → Int) : (flatM n C M).length = n * C := by simp [flatM]
theorem flatM_congr {n C : Nat} {M M' : Nat → Nat → Int} (h : ∀ i j, i < n → j < C → M i j = M' i j) : flatM n C M = flatM n C M' := by
  unfold flatM
  refine List.map_congr_left fun t ht => ?_
  have ht : t < n * C := by simpa using ht
  have hC : 0 < C := by
    rcases Nat.eq_zero_or_pos C with h0 | h0
    · rw [h0] at ht; omega
    · exact h0
  exact h _ _ (Nat.div_lt_of_lt_mul (by rwa [Nat.mul_comm])) (Nat.mod_lt _ hC)
theorem flatM_mf (n C : Nat) (h : Nat → Int) : flatM n C (mf C h) = (List.range (n * C)).map h := by
  unfold flatM mf
  refine List.map_congr_left fun t _ => ?_
  rw [Nat.mul_comm, Nat.div_add_mod]
theorem flatM_rows {C : Nat} {L : List (List Int)} (h : ∀ i, i < L.length → (L.getD i []).length = C) : flatM L.length C (mt L) = L.flatten := by
  have hL : ∀ r ∈ L, r.length = C := fun r hr => by
    obtain ⟨i, hi, rfl⟩ := List.mem_iff_getElem.1 hr
    have := h i hi
    rwa [List.getD_eq_getElem?_getD, List.getElem?_eq_getElem hi, Option.getD_some] at this
  have hl : L.flatten.length = L.length * C := flat_length hL
  apply List.ext_getElem (by rw [flatM_length, hl])
  intro t h1 h2
  rw [flatM_length] at h1
  have hC : 0 < C := by
    rcases Nat.eq_zero_or_pos C with h0 | h0
    · rw [h0] at h1; omega
    · exact h0
  have e := flat_getD (t := t) hC hL
  rw [List.getD_eq_getElem?_getD, List.getElem?_eq_getElem h2, Option.getD_some] at e
  rw [e]
  simp [flatM, mt]

/-- what SpanOf returns -/
def SpIs (P R C : Int) (D : List Int) (m : Mx) : Prop :=
  if mxOk P R C D = true then ∃ (n : Nat) (M : Nat → Nat → Int) (q : Nat → Nat), IsRed P C.toNat R.toNat (mf C.toNat fun t => D.getD t 0) n M q ∧ (n : Int) ≤ R ∧ m = ⟨P, n, C, flatM n C.toNat M⟩ else m = mxZero
theorem SpIs.one {P R C : Int} {D : List Int} {m m' : Mx} (h : SpIs P R C D m) (h' : SpIs P R C D m') : m = m' := by
  unfold SpIs at h h'
  by_cases e : mxOk P R C D = true
  · rw [if_pos e] at h h'
    obtain ⟨n, M, q, h1, _, rfl⟩ := h
    obtain ⟨n', M', q', h1', _, rfl⟩ := h'
    obtain ⟨_, _, _, _, _, _, _, _, _, hP, _⟩ := mxOk_facts e
    obtain ⟨e1, _, e3⟩ := h1.one hP h1'
    subst e1
    rw [flatM_congr e3]
  · rw [if_neg e] at h h'
    rw [h, h']
instance : Nonempty Mx := ⟨mxZero⟩
/-- .. or the empty one, were there none -/
def SpQ (P R C : Int) (D : List Int) (m : Mx) : Prop := SpIs P R C D m ∨ ((∀ m', ¬ SpIs P R C D m') ∧ m = mxZero)
theorem SpQ.ex (P R C : Int) (D : List Int) : ∃ m, SpQ P R C D m := by
  by_cases h : ∃ m, SpIs P R C D m
  · obtain ⟨m, h⟩ := h
    exact ⟨m, .inl h⟩
  · exact ⟨mxZero, .inr ⟨fun m hm => h ⟨m, hm⟩, rfl⟩⟩
theorem SpIs.eps {P R C : Int} {D : List Int} {m : Mx} (h : SpIs P R C D m) : m = Classical.epsilon (SpQ P R C D) := by
  rcases Classical.epsilon_spec (SpQ.ex P R C D) with h2 | ⟨h2, _⟩
  · exact h.one h2
  · exact absurd h (h2 m)
theorem SpIs.len {P R C : Int} {D : List Int} {m : Mx} (h : SpIs P R C D m) : m.D.length ≤ 1000 := by
  unfold SpIs at h
  by_cases e : mxOk P R C D = true
  · rw [if_pos e] at h
    obtain ⟨n, M, q, _, hn, rfl⟩ := h
    obtain ⟨r, c, rfl, rfl, hr, _, hc, _⟩ := mxOk_facts e
    rw [flatM_length]
    have : n * c ≤ 7 * 7 := Nat.mul_le_mul (by omega) hc
    simp only [Int.toNat_natCast]
    omega
  · rw [if_neg e] at h
    rw [h]; simp [mxZero]

theorem span_len (P R C : Int) (D : List Int) : (Classical.epsilon (SpQ P R C D)).D.length ≤ 1000 := by
  rcases Classical.epsilon_spec (SpQ.ex P R C D) with h | ⟨_, h⟩
  · exact h.len
  · rw [h]; simp [mxZero]

theorem ints_take {w : World} {p : Option Addr} {k N : Nat} {h : Nat → Int} {K : Nat} (hI : Ints w (.slice p N k) ((List.range N).map h)) (hK : K ≤ N) : Ints w (.slice p K k) ((List.range K).map h) := by
  obtain ⟨q, cap, e, ⟨h1, h2⟩, hc⟩ := hI
  injection e with e1 e2 e3
  subst e1 e3
  rw [List.length_map, List.length_range] at h1 hc
  refine ⟨p, k, by simp, ⟨by simp; omega, h2⟩, fun h0 => ?_⟩
  rw [List.length_map, List.length_range] at h0 
  obtain ⟨b, off, e, hx⟩ := hc (by omega)
  refine ⟨b, off, e, fun j hj => ?_⟩
  rw [List.length_map, List.length_range] at hj
  rw [hx j (by omega)]
  simp [iv, List.getD_eq_getElem?_getD, hj, show j < N by omega]

theorem span_flat {P : Int} {C : Nat} {L : List (List Int)} (h : RowsOk P C L) : flatM L.length C (mt L) = L.flatten := flatM_rows fun i hi => (h i hi).1
theorem span_small {P : Int} {C r : Nat} {L : List (List Int)} (h : RowsOk P C L) (hl : L.length ≤ r) (hr : r ≤ 14) (hC : C ≤ 14) : L.flatten.length ≤ 1000000 := by
  rw [← span_flat h, flatM_length]
  have := Nat.mul_le_mul (Nat.le_trans hl hr) hC
  omega

/-- a matrix, in new memory, which is the span's reduced form -/
def RetSp (w : World) (P : Int) (C R : Nat) (M0 : Nat → Nat → Int) (e : Ending) (w' : World) : Prop :=
  ∃ (n : Nat) (M : Nat → Nat → Int) (q : Nat → Nat), IsRed P C R M0 n M q ∧ n ≤ R ∧ RetM w ⟨P, n, C, flatM n C M⟩ e w'

end Go.Proofs.Ytpfefjdefopccaa

namespace Go.Proofs.Ytpfefjdefopccaa
set_option linter.all false
open Go.RowKit

end Go.Proofs.Ytpfefjdefopccaa

namespace Go.Proofs.Ytpfefjdefopccaa
set_option linter.all false
open Go.RowKit

/-- what IsSpace returns: is the matrix the reduced form of its own span? -/
def IkIs (P R C : Int) (D : List Int) (b : Bool) : Prop := b = true ↔ mxOk P R C D = true ∧ SpIs P R C D ⟨P, R, C, D⟩
theorem IkIs.one {P R C : Int} {D : List Int} {b b' : Bool} (h : IkIs P R C D b) (h' : IkIs P R C D b') : b = b' := by
  unfold IkIs at h h'
  have e : b = true ↔ b' = true := h.trans h'.symm
  cases b <;> cases b' <;> simp_all
theorem IkIs.eps {P R C : Int} {D : List Int} {b : Bool} (h : IkIs P R C D b) : b = Classical.epsilon (IkIs P R C D) := h.one (Classical.epsilon_spec ⟨b, h⟩)
theorem IkIs.no {P R C : Int} {D : List Int} (h : mxOk P R C D = false) : IkIs P R C D false := by
  unfold IkIs; simp [h]
theorem IkIs.same {P R C n : Int} {D L : List Int} (h : mxOk P R C D = true) (hs : SpIs P R C D ⟨P, n, C, L⟩) : IkIs P R C D (mxSame P R C D P n C L) := by
  unfold IkIs
  constructor
  · intro e
    obtain ⟨_, e2, _, e4⟩ := of_decide_eq_true e
    subst e2 e4
    exact ⟨h, hs⟩
  · rintro ⟨_, h2⟩
    have e := h2.one hs
    injection e with _ e2 _ e4
    exact decide_eq_true ⟨rfl, e2, rfl, e4⟩
theorem IkIs.eql {P R C mP mR mC : Int} {D L : List Int} (h : mxOk P R C D = true) (hs : SpIs P R C D ⟨mP, mR, mC, L⟩) : IkIs P R C D (decide (L = D)) := by
  unfold IkIs
  constructor
  · intro e
    have e := of_decide_eq_true e
    refine ⟨h, ?_⟩
    have hs2 := hs
    unfold SpIs at hs2
    rw [if_pos h] at hs2
    obtain ⟨n, M, q, _, _, e5⟩ := hs2
    injection e5 with e6 e7 e8 e9
    obtain ⟨r, c, rfl, rfl, _, hc0, _, hlD, _⟩ := mxOk_facts h
    have hl : n * c = r * c := by
      rw [← hlD, ← e, e9, flatM_length]
      simp
    have hn : n = r := Nat.eq_of_mul_eq_mul_right (by omega) hl
    rw [e6, e7, e8, e, hn] at hs
    exact hs
  · rintro ⟨_, h2⟩
    have e := h2.one hs
    injection e with _ _ _ e4
    exact decide_eq_true e4.symm

end Go.Proofs.Ytpfefjdefopccaa

namespace Go.Proofs.Ytpfefjdefopccaa
set_option linter.all false
open Go.RowKit

/-- append, as a step of a region that draws -/
theorem step_append_F {P : Program} {w : World} {ops : Array Oper} {o : Oper} {a : Act} {K : Act → World → Prop} {Q : Exit → Act → World → Prop} {E : Prop} (hgd : o.guard = none) (s x : Operand) (t : TypeId)
    (ho : o.op = .call { callee := .builtin .append, args := #[s, x], argTypes := #[t, t] })
    (e : TypeId) (z : Value) (bytes : Nat) (ht : P.underlying t = some (.slice e)) (hinfo : (P.info? e).map (fun i => (i.zero, i.size, i.bytes)) = some (some z, 1, bytes)) (hzs : z.cells.size = 1)
    (lo hi' : Nat) (v : Value) (n : Nat) (f : Nat → Value) (hs : a.eval s = v) (hown : OwnF w lo hi' e v n f) (hlo : lo ≤ w.heap.size) (hhi : hi' ≤ w.heap.size)
    (u : Value) (m : Nat) (g : Nat → Value) (hxu : a.eval x = u) (hx : Rd w u m g) (h1 : ∀ j, j < m → (g j).oneCell' = true) (h63 : n + m ≤ maxLen) (hbytes : (n + m) * bytes ≤ 140737488355328)
    (h : ∀ v' w', OwnF w' lo w'.heap.size e v' (n + m) (fun j => if j < n then f j else g (j - n)) → w.grownBy w' v.ownBlock → K (a.put o.dst v') w') :
    if Region.wanted o (yielded ops a.tmps) = true then Oper.wp P o a w K Q else E := by
  have hw : Region.wanted o (yielded ops a.tmps) = true := by simp [Region.wanted, hgd]
  rw [if_pos hw]
  obtain ⟨i, hi, hz, hsz, hby⟩ := info_parts hinfo
  obtain ⟨v', w', hr, h2, h3⟩ := run_append_F (P := P) w t o.type e i z bytes ht hi hz hsz hby hzs lo hi' v n f hown hlo hhi u m g hx h1 h63 hbytes
  unfold Oper.wp
  simp [execOp, ho, resolve, invoke, builtin, hs, hxu, hr, Result.andThen]
  exact h v' w' h2 h3

theorem grownBy_below2 {w w' : World} {v : Value} {lo hi : Nat} {T : TypeId} {n : Nat} {f : Nat → Value} (h : w.grownBy w' v.ownBlock) (ho : OwnF w lo hi T v n f) {B : Nat} (h1 : B ≤ lo) (h2 : B ≤ w.heap.size) : Below B w w' :=
  grownBy_below h ho.blocks h1 h2

/-- eight cells that are read, and a block for the result -/
theorem keep9 {w W W' : World} {a0 a1 a2 a3 a4 a5 a6 a7 : Addr} {v0 v1 v2 v3 v4 v5 v6 v7 : Value} {b : Nat} {T : TypeId} (hb : Below W.heap.size W W')
    (h : ((W.cell? a0 = some v0 ∧ W.cell? a1 = some v1 ∧ W.cell? a2 = some v2 ∧ W.cell? a3 = some v3 ∧ W.cell? a4 = some v4 ∧ W.cell? a5 = some v5 ∧ W.cell? a6 = some v6 ∧ W.cell? a7 = some v7) ∧ ∃ y0 y1 y2 y3, W.heap[b]? = some (.cells #[y0, y1, y2, y3] T (0, 0))) ∧ Below w.heap.size w W) :
    ((W'.cell? a0 = some v0 ∧ W'.cell? a1 = some v1 ∧ W'.cell? a2 = some v2 ∧ W'.cell? a3 = some v3 ∧ W'.cell? a4 = some v4 ∧ W'.cell? a5 = some v5 ∧ W'.cell? a6 = some v6 ∧ W'.cell? a7 = some v7) ∧ ∃ y0 y1 y2 y3, W'.heap[b]? = some (.cells #[y0, y1, y2, y3] T (0, 0))) ∧ Below w.heap.size w W' := by
  obtain ⟨⟨⟨h0, h1, h2, h3, h4, h5, h6, h7⟩, y0, y1, y2, y3, hy⟩, hB⟩ := h
  exact ⟨⟨⟨cell_below hb h0, cell_below hb h1, cell_below hb h2, cell_below hb h3, cell_below hb h4, cell_below hb h5, cell_below hb h6, cell_below hb h7⟩, y0, y1, y2, y3, blk_later hy hb⟩, hB.trans (hb.mono hB.size)⟩
theorem keep9_gen {w W W' : World} {b1 b2 o0 o1 o2 o3 o4 o5 o6 o7 : Nat} {v0 v1 v2 v3 v4 v5 v6 v7 z0 z1 z2 z3 : Value} {b : Nat} {T : TypeId} (hh : W'.heap[b1]? = W.heap[b1]?) (hh2 : W'.heap[b2]? = W.heap[b2]?) (hy : W'.heap[b]? = some (.cells #[z0, z1, z2, z3] T (0, 0))) (hB : Below w.heap.size w W')
    (h : W.cell? ⟨b1, o0, none⟩ = some v0 ∧ W.cell? ⟨b1, o1, none⟩ = some v1 ∧ W.cell? ⟨b1, o2, none⟩ = some v2 ∧ W.cell? ⟨b1, o3, none⟩ = some v3 ∧ W.cell? ⟨b2, o4, none⟩ = some v4 ∧ W.cell? ⟨b2, o5, none⟩ = some v5 ∧ W.cell? ⟨b2, o6, none⟩ = some v6 ∧ W.cell? ⟨b2, o7, none⟩ = some v7) :
    ((W'.cell? ⟨b1, o0, none⟩ = some v0 ∧ W'.cell? ⟨b1, o1, none⟩ = some v1 ∧ W'.cell? ⟨b1, o2, none⟩ = some v2 ∧ W'.cell? ⟨b1, o3, none⟩ = some v3 ∧ W'.cell? ⟨b2, o4, none⟩ = some v4 ∧ W'.cell? ⟨b2, o5, none⟩ = some v5 ∧ W'.cell? ⟨b2, o6, none⟩ = some v6 ∧ W'.cell? ⟨b2, o7, none⟩ = some v7) ∧ ∃ y0 y1 y2 y3, W'.heap[b]? = some (.cells #[y0, y1, y2, y3] T (0, 0))) ∧ Below w.heap.size w W' := by
  obtain ⟨h0, h1, h2, h3, h4, h5, h6, h7⟩ := h
  refine ⟨⟨⟨?_, ?_, ?_, ?_, ?_, ?_, ?_, ?_⟩, z0, z1, z2, z3, hy⟩, hB⟩
  · rw [World.cell?_of_block (w := W) hh]; exact h0
  · rw [World.cell?_of_block (w := W) hh]; exact h1
  · rw [World.cell?_of_block (w := W) hh]; exact h2
  · rw [World.cell?_of_block (w := W) hh]; exact h3
  · rw [World.cell?_of_block (w := W) hh2]; exact h4
  · rw [World.cell?_of_block (w := W) hh2]; exact h5
  · rw [World.cell?_of_block (w := W) hh2]; exact h6
  · rw [World.cell?_of_block (w := W) hh2]; exact h7
theorem heap_set4 {W : World} {b1 b : Nat} (hne : b1 ≠ b) (x0 x1 x2 x3 : Value) : ((((W.setCell ⟨b, 0, none⟩ x0).setCell ⟨b, 1, none⟩ x1).setCell ⟨b, 2, none⟩ x2).setCell ⟨b, 3, none⟩ x3).heap[b1]? = W.heap[b1]? := by
  rw [Below.heap_setCell _ _ _ _ (show b1 ≠ (⟨b, 3, none⟩ : Addr).block from hne), Below.heap_setCell _ _ _ _ (show b1 ≠ (⟨b, 2, none⟩ : Addr).block from hne), Below.heap_setCell _ _ _ _ (show b1 ≠ (⟨b, 1, none⟩ : Addr).block from hne), Below.heap_setCell _ _ _ _ (show b1 ≠ (⟨b, 0, none⟩ : Addr).block from hne)]
theorem keep9_set {w W : World} {b1 b2 o0 o1 o2 o3 o4 o5 o6 o7 : Nat} {v0 v1 v2 v3 v4 v5 v6 v7 : Value} {b : Nat} {T : TypeId} (hne : b1 ≠ b) (hne2 : b2 ≠ b) (hbw : w.heap.size ≤ b) (x0 x1 x2 x3 : Value)
    (h : ((W.cell? ⟨b1, o0, none⟩ = some v0 ∧ W.cell? ⟨b1, o1, none⟩ = some v1 ∧ W.cell? ⟨b1, o2, none⟩ = some v2 ∧ W.cell? ⟨b1, o3, none⟩ = some v3 ∧ W.cell? ⟨b2, o4, none⟩ = some v4 ∧ W.cell? ⟨b2, o5, none⟩ = some v5 ∧ W.cell? ⟨b2, o6, none⟩ = some v6 ∧ W.cell? ⟨b2, o7, none⟩ = some v7) ∧ ∃ y0 y1 y2 y3, W.heap[b]? = some (.cells #[y0, y1, y2, y3] T (0, 0))) ∧ Below w.heap.size w W) :
    ((((((W.setCell ⟨b, 0, none⟩ x0).setCell ⟨b, 1, none⟩ x1).setCell ⟨b, 2, none⟩ x2).setCell ⟨b, 3, none⟩ x3).cell? ⟨b1, o0, none⟩ = some v0 ∧ ((((W.setCell ⟨b, 0, none⟩ x0).setCell ⟨b, 1, none⟩ x1).setCell ⟨b, 2, none⟩ x2).setCell ⟨b, 3, none⟩ x3).cell? ⟨b1, o1, none⟩ = some v1 ∧
      ((((W.setCell ⟨b, 0, none⟩ x0).setCell ⟨b, 1, none⟩ x1).setCell ⟨b, 2, none⟩ x2).setCell ⟨b, 3, none⟩ x3).cell? ⟨b1, o2, none⟩ = some v2 ∧ ((((W.setCell ⟨b, 0, none⟩ x0).setCell ⟨b, 1, none⟩ x1).setCell ⟨b, 2, none⟩ x2).setCell ⟨b, 3, none⟩ x3).cell? ⟨b1, o3, none⟩ = some v3 ∧
      ((((W.setCell ⟨b, 0, none⟩ x0).setCell ⟨b, 1, none⟩ x1).setCell ⟨b, 2, none⟩ x2).setCell ⟨b, 3, none⟩ x3).cell? ⟨b2, o4, none⟩ = some v4 ∧ ((((W.setCell ⟨b, 0, none⟩ x0).setCell ⟨b, 1, none⟩ x1).setCell ⟨b, 2, none⟩ x2).setCell ⟨b, 3, none⟩ x3).cell? ⟨b2, o5, none⟩ = some v5 ∧
      ((((W.setCell ⟨b, 0, none⟩ x0).setCell ⟨b, 1, none⟩ x1).setCell ⟨b, 2, none⟩ x2).setCell ⟨b, 3, none⟩ x3).cell? ⟨b2, o6, none⟩ = some v6 ∧ ((((W.setCell ⟨b, 0, none⟩ x0).setCell ⟨b, 1, none⟩ x1).setCell ⟨b, 2, none⟩ x2).setCell ⟨b, 3, none⟩ x3).cell? ⟨b2, o7, none⟩ = some v7) ∧
      ∃ y0 y1 y2 y3, ((((W.setCell ⟨b, 0, none⟩ x0).setCell ⟨b, 1, none⟩ x1).setCell ⟨b, 2, none⟩ x2).setCell ⟨b, 3, none⟩ x3).heap[b]? = some (.cells #[y0, y1, y2, y3] T (0, 0))) ∧
      Below w.heap.size w ((((W.setCell ⟨b, 0, none⟩ x0).setCell ⟨b, 1, none⟩ x1).setCell ⟨b, 2, none⟩ x2).setCell ⟨b, 3, none⟩ x3) := by
  obtain ⟨⟨hc, y0, y1, y2, y3, hy⟩, hB⟩ := h
  have hy4 := set4_all hy x0 x1 x2 x3
  have hB4 := below_set4 hB hbw x0 x1 x2 x3
  exact keep9_gen (heap_set4 hne x0 x1 x2 x3) (heap_set4 hne2 x0 x1 x2 x3) hy4 hB4 hc
theorem s9_blk {w W : World} {c : Prop} {b : Nat} {T : TypeId}
    (h : (c ∧ ∃ y0 y1 y2 y3, W.heap[b]? = some (.cells #[y0, y1, y2, y3] T (0, 0))) ∧ Below w.heap.size w W) :
    ∃ y0 y1 y2 y3, W.heap[b]? = some (.cells #[y0, y1, y2, y3] T (0, 0)) := h.1.2

/-- .. where what changed lies from B on -/
theorem keep9B {w W W' : World} {B b1 b2 o0 o1 o2 o3 o4 o5 o6 o7 : Nat} {v0 v1 v2 v3 v4 v5 v6 v7 : Value} {b : Nat} {T : TypeId} (hb : Below B W W') (hB1 : b1 < B) (hB2 : b2 < B) (hB3 : b < B) (hw : w.heap.size ≤ B)
    (h : ((W.cell? ⟨b1, o0, none⟩ = some v0 ∧ W.cell? ⟨b1, o1, none⟩ = some v1 ∧ W.cell? ⟨b1, o2, none⟩ = some v2 ∧ W.cell? ⟨b1, o3, none⟩ = some v3 ∧ W.cell? ⟨b2, o4, none⟩ = some v4 ∧ W.cell? ⟨b2, o5, none⟩ = some v5 ∧ W.cell? ⟨b2, o6, none⟩ = some v6 ∧ W.cell? ⟨b2, o7, none⟩ = some v7) ∧ ∃ y0 y1 y2 y3, W.heap[b]? = some (.cells #[y0, y1, y2, y3] T (0, 0))) ∧ Below w.heap.size w W) :
    ((W'.cell? ⟨b1, o0, none⟩ = some v0 ∧ W'.cell? ⟨b1, o1, none⟩ = some v1 ∧ W'.cell? ⟨b1, o2, none⟩ = some v2 ∧ W'.cell? ⟨b1, o3, none⟩ = some v3 ∧ W'.cell? ⟨b2, o4, none⟩ = some v4 ∧ W'.cell? ⟨b2, o5, none⟩ = some v5 ∧ W'.cell? ⟨b2, o6, none⟩ = some v6 ∧ W'.cell? ⟨b2, o7, none⟩ = some v7) ∧ ∃ y0 y1 y2 y3, W'.heap[b]? = some (.cells #[y0, y1, y2, y3] T (0, 0))) ∧ Below w.heap.size w W' := by
  obtain ⟨⟨hc, y0, y1, y2, y3, hy⟩, hB⟩ := h
  exact keep9_gen (hb.block _ hB1) (hb.block _ hB2) ((hb.block _ hB3).trans hy) (hB.trans (hb.mono hw)) hc
theorem held_lt {w W : World} {c : Prop} {b : Nat} {T : TypeId} (h : (c ∧ ∃ y0 y1 y2 y3, W.heap[b]? = some (.cells #[y0, y1, y2, y3] T (0, 0))) ∧ Below w.heap.size w W) : b + 1 ≤ W.heap.size := by
  obtain ⟨y0, y1, y2, y3, hy⟩ := h.1.2
  exact blk_lt hy

/-- one list behind another one -/
theorem own_join {T : TypeId} {w : World} {lo hi : Nat} {v : Value} {xs ys : List Int} (h : OwnF w lo hi T v (xs.length + ys.length) (fun j => if j < xs.length then iv xs j else iv ys (j - xs.length))) : OwnI T w lo hi v (xs ++ ys) := by
  refine OwnF.ints ?_
  rw [List.length_append]
  exact h.congr fun j _ => iv_append rfl j

theorem OwnI.one {T : TypeId} {w : World} {lo hi : Nat} {v : Value} {xs : List Int} (h : OwnI T w lo hi v xs) : v.oneCell' = true := by
  obtain ⟨p, cap, rfl, _, _⟩ := h.shape
  rfl
/-- rows of the call's own, put behind others, as a step of a region that draws -/
theorem step_append_II {w : World} {ops : Array Oper} {o : Oper} {a : Act} {K : Act → World → Prop} {Q : Exit → Act → World → Prop} {E : Prop} (hgd : o.guard = none) (s x : Operand)
    (ho : o.op = .call { callee := .builtin .append, args := #[s, x], argTypes := #[30, 30] })
    (lo mid hi : Nat) (v u : Value) (rows rows2 : List (List Int)) (hs : a.eval s = v) (hxu : a.eval x = u)
    (h1 : OwnII 24 3 w lo mid v rows) (h2 : OwnII 24 3 w mid hi u rows2) (hm : lo ≤ mid) (hmh : mid ≤ hi) (hhi : hi ≤ w.heap.size) (hl : rows.length + rows2.length ≤ 1000)
    (h : ∀ v' w', OwnII 24 3 w' lo w'.heap.size v' (rows ++ rows2) → Below lo w w' → K (a.put o.dst v') w') :
    if Region.wanted o (yielded ops a.tmps) = true then Oper.wp Try.prog o a w K Q else E := by
  obtain ⟨f, g1, g2, g3⟩ := h1
  obtain ⟨g, k1, k2, k3⟩ := h2
  refine step_append_F hgd s x 30 ho 24 (.slice none 0 0) 24 Try.underlying30 info_sl rfl lo mid v rows.length f hs g1 (by omega) (by omega) u rows2.length g hxu k1.rd (fun j hj => (k2 j hj).one) (by unfold maxLen; omega) (by omega) ?_
  intro v' w' ho' hg'
  exact h v' w' (OwnII.join g1 g2 g3 k2 k3 hm hmh (by decide) hg' (Nat.le_trans hhi hg'.size) ho') (grownBy_below2 hg' g1 (Nat.le_refl _) (by omega))

/-- the boxes of two arguments -/
theorem boxes_ab (w : World) (A B : Obj) : ((w.alloc A).alloc B).heap[w.heap.size]? = some A ∧ ((w.alloc A).alloc B).heap[w.heap.size + 1]? = some B := by
  refine ⟨?_, heap_alloc_at _ _ (by simp)⟩
  rw [heap_alloc_low _ _ (by simp)]; exact heap_alloc_top _ _
/-- .. and the result's cell -/
theorem boxes_abz (w : World) (A B Z : Obj) : (((w.alloc A).alloc B).alloc Z).heap[w.heap.size]? = some A ∧ (((w.alloc A).alloc B).alloc Z).heap[w.heap.size + 1]? = some B ∧ (((w.alloc A).alloc B).alloc Z).heap[w.heap.size + 1 + 1]? = some Z := by
  refine ⟨?_, ?_, heap_alloc_at _ _ (by simp)⟩
  · rw [heap_alloc_low _ _ (by simp; omega)]; exact (boxes_ab w A B).1
  · rw [heap_alloc_low _ _ (by simp)]; exact (boxes_ab w A B).2
theorem size_ab (w : World) (A B : Obj) : ((w.alloc A).alloc B).heap.size = w.heap.size + 1 + 1 := by simp
theorem size_abz (w : World) (A B Z : Obj) : (((w.alloc A).alloc B).alloc Z).heap.size = w.heap.size + 1 + 1 + 1 := by simp

end Go.Proofs.Ytpfefjdefopccaa

namespace Go.Proofs.Ytpfefjdefopccaa
set_option linter.all false
open Go.RowKit

/-- it is a space -/
def IsSp (P R C : Int) (D : List Int) : Prop := mxOk P R C D = true ∧ SpIs P R C D ⟨P, R, C, D⟩
/-- two spaces that lie in one -/
def TwoIs (P R C : Int) (D : List Int) (P' R' C' : Int) (D' : List Int) : Prop := IsSp P R C D ∧ IsSp P' R' C' D' ∧ P = P' ∧ C = C'
def fitOk (P C P' C' : Int) : Bool := decide (P = P') && decide (C = C')

set_option maxRecDepth 100000 in
set_option maxHeartbeats 2000000 in
theorem fitTogether_any (AP AR AC BP BR BC : Int) (dA dB : Value) (DA DB : List Int) (w : World) (hdA : Ints w dA DA) (hdB : Ints w dB DB) :
    Calls Try.prog 19 #[.agg #[.int .i64 AP, .int .i64 AR, .int .i64 AC, dA], .agg #[.int .i64 BP, .int .i64 BR, .int .i64 BC, dB]] w fun e w' => e = .returned (.bool (fitOk AP AC BP BC)) ∧ Below w.heap.size w w' := by
  by_cases h1 : AP = BP
  case neg =>
    have e1 : (AP == BP) = false := by simpa using h1
    have e0 : fitOk AP AC BP BC = false := by simp [fitOk, h1]
    rw [e0]
    clear h1 e0
    have HdA := Lib.hid hdA
    obtain ⟨pA, kA, rfl, ⟨_, mA⟩, _⟩ := hdA
    unfold maxLen at mA
    have HdB := Lib.hid hdB
    obtain ⟨pB, kB, rfl, ⟨_, mB⟩, _⟩ := hdB
    unfold maxLen at mB
    obtain ⟨z0, z1⟩ := boxes_ab w (.cells #[.int .i64 AP, .int .i64 AR, .int .i64 AC, .slice pA DA.length kA] 26) (.cells #[.int .i64 BP, .int .i64 BR, .int .i64 BC, .slice pB DB.length kB] 26)
    have ZA1 := Lib.hid z0
    have ZB1 := Lib.hid z1
    clear z0 z1
    have HB1 := Lib.hid (below_alloc2 w (.cells #[.int .i64 AP, .int .i64 AR, .int .i64 AC, .slice pA DA.length kA] 26) (.cells #[.int .i64 BP, .int .i64 BR, .int .i64 BC, .slice pB DB.length kB] 26))
    go_enter Try.func19, Try.ntmps19
    go_wp2_with fail
    have hs1 : ((w.alloc (.cells #[.int .i64 AP, .int .i64 AR, .int .i64 AC, .slice pA DA.length kA] 26)).alloc (.cells #[.int .i64 BP, .int .i64 BR, .int .i64 BC, .slice pB DB.length kB] 26)).heap.size = w.heap.size + 1 + 1 := by simp
    generalize (w.alloc (.cells #[.int .i64 AP, .int .i64 AR, .int .i64 AC, .slice pA DA.length kA] 26)).alloc (.cells #[.int .i64 BP, .int .i64 BR, .int .i64 BC, .slice pB DB.length kB] 26) = w1 at *
    obtain ⟨cA0, cA1, cA2, cA3, cAf, cAz⟩ := blk4 ZA1.out
    obtain ⟨cB0, cB1, cB2, cB3, cBf, cBz⟩ := blk4 ZB1.out
    go_wp2_with fail
    go_ret
    exact ⟨rfl, HB1.out⟩
  by_cases h2 : AC = BC
  case neg =>
    have e2 : (AC == BC) = false := by simpa using h2
    have e0 : fitOk AP AC BP BC = false := by simp [fitOk, h2]
    rw [e0]
    clear h2 e0
    subst h1
    have HdA := Lib.hid hdA
    obtain ⟨pA, kA, rfl, ⟨_, mA⟩, _⟩ := hdA
    unfold maxLen at mA
    have HdB := Lib.hid hdB
    obtain ⟨pB, kB, rfl, ⟨_, mB⟩, _⟩ := hdB
    unfold maxLen at mB
    obtain ⟨z0, z1⟩ := boxes_ab w (.cells #[.int .i64 AP, .int .i64 AR, .int .i64 AC, .slice pA DA.length kA] 26) (.cells #[.int .i64 AP, .int .i64 BR, .int .i64 BC, .slice pB DB.length kB] 26)
    have ZA1 := Lib.hid z0
    have ZB1 := Lib.hid z1
    clear z0 z1
    have HB1 := Lib.hid (below_alloc2 w (.cells #[.int .i64 AP, .int .i64 AR, .int .i64 AC, .slice pA DA.length kA] 26) (.cells #[.int .i64 AP, .int .i64 BR, .int .i64 BC, .slice pB DB.length kB] 26))
    go_enter Try.func19, Try.ntmps19
    go_wp2_with fail
    have hs1 : ((w.alloc (.cells #[.int .i64 AP, .int .i64 AR, .int .i64 AC, .slice pA DA.length kA] 26)).alloc (.cells #[.int .i64 AP, .int .i64 BR, .int .i64 BC, .slice pB DB.length kB] 26)).heap.size = w.heap.size + 1 + 1 := by simp
    generalize (w.alloc (.cells #[.int .i64 AP, .int .i64 AR, .int .i64 AC, .slice pA DA.length kA] 26)).alloc (.cells #[.int .i64 AP, .int .i64 BR, .int .i64 BC, .slice pB DB.length kB] 26) = w1 at *
    obtain ⟨cA0, cA1, cA2, cA3, cAf, cAz⟩ := blk4 ZA1.out
    obtain ⟨cB0, cB1, cB2, cB3, cBf, cBz⟩ := blk4 ZB1.out
    go_wp2_with fail
    go_ret
    exact ⟨rfl, HB1.out⟩
  have e0 : fitOk AP AC BP BC = true := by simp [fitOk, h1, h2]
  rw [e0]
  clear e0
  subst h1 h2
  have HdA := Lib.hid hdA
  obtain ⟨pA, kA, rfl, ⟨_, mA⟩, _⟩ := hdA
  unfold maxLen at mA
  have HdB := Lib.hid hdB
  obtain ⟨pB, kB, rfl, ⟨_, mB⟩, _⟩ := hdB
  unfold maxLen at mB
  obtain ⟨z0, z1⟩ := boxes_ab w (.cells #[.int .i64 AP, .int .i64 AR, .int .i64 AC, .slice pA DA.length kA] 26) (.cells #[.int .i64 AP, .int .i64 BR, .int .i64 AC, .slice pB DB.length kB] 26)
  have ZA1 := Lib.hid z0
  have ZB1 := Lib.hid z1
  clear z0 z1
  have HB1 := Lib.hid (below_alloc2 w (.cells #[.int .i64 AP, .int .i64 AR, .int .i64 AC, .slice pA DA.length kA] 26) (.cells #[.int .i64 AP, .int .i64 BR, .int .i64 AC, .slice pB DB.length kB] 26))
  go_enter Try.func19, Try.ntmps19
  go_wp2_with fail
  have hs1 : ((w.alloc (.cells #[.int .i64 AP, .int .i64 AR, .int .i64 AC, .slice pA DA.length kA] 26)).alloc (.cells #[.int .i64 AP, .int .i64 BR, .int .i64 AC, .slice pB DB.length kB] 26)).heap.size = w.heap.size + 1 + 1 := by simp
  generalize (w.alloc (.cells #[.int .i64 AP, .int .i64 AR, .int .i64 AC, .slice pA DA.length kA] 26)).alloc (.cells #[.int .i64 AP, .int .i64 BR, .int .i64 AC, .slice pB DB.length kB] 26) = w1 at *
  obtain ⟨cA0, cA1, cA2, cA3, cAf, cAz⟩ := blk4 ZA1.out
  obtain ⟨cB0, cB1, cB2, cB3, cBf, cBz⟩ := blk4 ZB1.out
  go_wp2_with fail
  go_ret
  exact ⟨rfl, HB1.out⟩

end Go.Proofs.Ytpfefjdefopccaa

namespace Go.Proofs.Ytpfefjdefopccaa
set_option linter.all false
open Go.RowKit


end Go.Proofs.Ytpfefjdefopccaa

namespace Go.Proofs.Ytpfefjdefopccaa
set_option linter.all false
open Go.RowKit

/-- a matrix and a bool that are known by a property, or none -/
def PrQ (Q : Mx → Bool → Prop) (x : Mx × Bool) : Prop := Q x.1 x.2 ∨ ((∀ m b, ¬ Q m b) ∧ x = (mxZero, false))
theorem PrQ.spec (Q : Mx → Bool → Prop) : PrQ Q (Classical.epsilon (PrQ Q)) := by
  refine Classical.epsilon_spec (p := PrQ Q) ?_
  by_cases h : ∃ m b, Q m b
  · obtain ⟨m, b, h⟩ := h
    exact ⟨(m, b), .inl h⟩
  · exact ⟨(mxZero, false), .inr ⟨fun m b hq => h ⟨m, b, hq⟩, rfl⟩⟩
theorem PrQ.eps {Q : Mx → Bool → Prop} {m : Mx} {b : Bool} (hone : ∀ m b m' b', Q m b → Q m' b' → m = m' ∧ b = b') (h : Q m b) : m = (Classical.epsilon (PrQ Q)).1 ∧ b = (Classical.epsilon (PrQ Q)).2 := by
  rcases PrQ.spec Q with h2 | ⟨h2, _⟩
  · exact hone _ _ _ _ h h2
  · exact absurd h (h2 m b)

/-- the reduced form of what rows span, as a matrix -/
def RowsIs (P : Int) (C R : Nat) (M0 : Nat → Nat → Int) (m : Mx) : Prop := ∃ (n : Nat) (M : Nat → Nat → Int) (q : Nat → Nat), IsRed P C R M0 n M q ∧ m = ⟨P, n, C, flatM n C M⟩
theorem RowsIs.one {P : Int} {C R : Nat} {M0 : Nat → Nat → Int} {m m' : Mx} (hP : 2 ≤ P) (h : RowsIs P C R M0 m) (h' : RowsIs P C R M0 m') : m = m' := by
  obtain ⟨n, M, q, h1, rfl⟩ := h
  obtain ⟨n', M', q', h1', rfl⟩ := h'
  obtain ⟨e1, _, e3⟩ := h1.one hP h1'
  subst e1
  rw [flatM_congr e3]
theorem RowsIs.len {P : Int} {C R : Nat} {M0 : Nat → Nat → Int} {m : Mx} (hC : C ≤ 14) (h : RowsIs P C R M0 m) : m.D.length ≤ 1000 := by
  obtain ⟨n, M, q, h1, rfl⟩ := h
  have a := asc_bound h1.2.1 h1.1.lt
  have b := Nat.mul_le_mul (Nat.le_trans a hC) hC
  show (flatM n C M).length ≤ 1000
  rw [flatM_length]
  omega
theorem RowsIs.same {P : Int} {C R R' : Nat} {M0 M1 : Nat → Nat → Int} {m : Mx} (h : RowsIs P C R M0 m) (hs : SameSp P C R' M1 R M0) : RowsIs P C R' M1 m := by
  obtain ⟨n, M, q, ⟨h1, h2, h3, h4⟩, rfl⟩ := h
  exact ⟨n, M, q, ⟨h1, h2, h3, hs.trans h4⟩, rfl⟩

/-- what SumSpaces returns -/
def SmIs (P R C : Int) (D : List Int) (P' R' C' : Int) (D' : List Int) (m : Mx) (ok : Bool) : Prop :=
  (TwoIs P R C D P' R' C' D' ∧ ok = true ∧ RowsIs P C.toNat (R.toNat + R'.toNat) (stackM R.toNat (mf C.toNat fun t => D.getD t 0) (mf C.toNat fun t => D'.getD t 0)) m) ∨ (¬ TwoIs P R C D P' R' C' D' ∧ ok = false ∧ m = mxZero)
theorem SmIs.one {P R C : Int} {D : List Int} {P' R' C' : Int} {D' : List Int} (m : Mx) (b : Bool) (m' : Mx) (b' : Bool) (h : SmIs P R C D P' R' C' D' m b) (h' : SmIs P R C D P' R' C' D' m' b') : m = m' ∧ b = b' := by
  rcases h with ⟨t, rfl, h⟩ | ⟨t, rfl, rfl⟩
  · rcases h' with ⟨_, rfl, h'⟩ | ⟨t', _, _⟩
    · obtain ⟨_, _, _, _, _, _, _, _, _, hP, _⟩ := mxOk_facts t.1.1
      exact ⟨h.one hP h', rfl⟩
    · exact absurd t t'
  · rcases h' with ⟨t', _, _⟩ | ⟨_, rfl, rfl⟩
    · exact absurd t' t
    · exact ⟨rfl, rfl⟩
theorem sum_len (P R C : Int) (D : List Int) (P' R' C' : Int) (D' : List Int) : (Classical.epsilon (PrQ (SmIs P R C D P' R' C' D'))).1.D.length ≤ 1000 := by
  rcases PrQ.spec (SmIs P R C D P' R' C' D') with h | ⟨_, h⟩
  · rcases h with ⟨t, _, h⟩ | ⟨_, _, h⟩
    · obtain ⟨r, c, _, rfl, _, _, hc, _⟩ := mxOk_facts t.1.1
      exact h.len (by simp; omega)
    · rw [h]; simp [mxZero]
  · rw [h]; simp [mxZero]

/-- what lies flat, one behind the other -/
theorem both_mf {C R R' : Nat} {D D' : List Int} (hl : D.length = R * C) {i c : Nat} (hi : i < R + R') (hc : c < C) :
    mf C (fun t => (D ++ D').getD t 0) i c = stackM R (mf C fun t => D.getD t 0) (mf C fun t => D'.getD t 0) i c := by
  unfold mf
  by_cases h : i < R
  · rw [stackM_lt h]
    have h1 : i * C + c < R * C := by
      have : (i + 1) * C ≤ R * C := Nat.mul_le_mul_right C h
      rw [Nat.succ_mul] at this
      omega
    simp [List.getD_eq_getElem?_getD, List.getElem?_append_left (show i * C + c < D.length by omega)]
  · rw [stackM_ge h]
    obtain ⟨k, rfl⟩ : ∃ k, i = R + k := ⟨i - R, by omega⟩
    have e : (R + k) * C + c - R * C = (R + k - R) * C + c := by rw [Nat.add_mul, Nat.add_sub_cancel_left]; omega
    simp only [List.getD_eq_getElem?_getD]
    rw [List.getElem?_append_right (by rw [hl, Nat.add_mul]; omega), hl, e]
theorem both_rng {P : Int} {D D' : List Int} (hP : 0 < P) (h : ∀ t, 0 ≤ D.getD t 0 ∧ D.getD t 0 < P) (h' : ∀ t, 0 ≤ D'.getD t 0 ∧ D'.getD t 0 < P) (t : Nat) : 0 ≤ (D ++ D').getD t 0 ∧ (D ++ D').getD t 0 < P := by
  by_cases e : t < D.length
  · rw [List.getD_eq_getElem?_getD, List.getElem?_append_left e, ← List.getD_eq_getElem?_getD]; exact h t
  · rw [List.getD_eq_getElem?_getD, List.getElem?_append_right (by omega), ← List.getD_eq_getElem?_getD]; exact h' _
theorem getD_app_lt {a b : List (List Int)} {i : Nat} (h : i < a.length) : (a ++ b).getD i [] = a.getD i [] := by simp [List.getD_eq_getElem?_getD, List.getElem?_append_left h]
theorem getD_app_ge {a b : List (List Int)} {i : Nat} (h : ¬ i < a.length) : (a ++ b).getD i [] = b.getD (i - a.length) [] := by simp [List.getD_eq_getElem?_getD, List.getElem?_append_right (Nat.le_of_not_lt h)]
/-- rows behind rows -/
theorem rowsOf_join {P : Int} {R R' C : Nat} {D D' : List Int} : SameSp P C (R + R') (stackM R (mf C fun t => D.getD t 0) (mf C fun t => D'.getD t 0)) (rowsOf R C D ++ rowsOf R' C D').length (mt (rowsOf R C D ++ rowsOf R' C D')) := by
  rw [List.length_append, rowsOf_length, rowsOf_length]
  refine SameSp.of_eqv fun i hi => .of_eq fun c hc => ?_
  unfold mt
  by_cases h : i < R
  · rw [stackM_lt h, getD_app_lt (by rw [rowsOf_length]; exact h), rowsOf_getD h, rowAt_getD hc]
    rfl
  · rw [stackM_ge h, getD_app_ge (by rw [rowsOf_length]; exact h), rowsOf_length, rowsOf_getD (by omega), rowAt_getD hc]
    rfl
theorem RowsOk.join {p : Int} {C : Nat} {a b : List (List Int)} (ha : RowsOk p C a) (hb : RowsOk p C b) : RowsOk p C (a ++ b) := fun i hi => by
  by_cases h : i < a.length
  · rw [getD_app_lt h]; exact ha i h
  · rw [List.length_append] at hi
    rw [getD_app_ge h]; exact hb _ (by omega)


end Go.Proofs.Ytpfefjdefopccaa

namespace Go.Proofs.Ytpfefjdefopccaa
set_option linter.all false
open Go.RowKit

theorem run_append_make_own {P : Program} (w : World) (base : Nat) (t ti ty e : TypeId) (z : Value) (bytes : Nat) (ht : P.underlying t = some (.slice e)) (hti : P.underlying ti = some (.int .i64))
    (hinfo : (P.info? e).map (fun i => (i.zero, i.size, i.bytes)) = some (some z, 1, bytes)) (hzs : z.cells.size = 1) (hz1 : ∀ u ∈ z.cells.toList, u.oneCell' = true) (hb : bytes ≤ 1000) (hb0 : 0 < bytes)
    (v : Value) (n : Nat) (xs : List Value) (hown : w.ownsRow base e 1 v n xs) (m : Nat) (hm0 : 0 < m) (hnm : n + m ≤ 1000000) (hbase : base ≤ w.heap.size) :
    ∃ v' w', (Builtin.append_ #[t, ti] ty #[v, .int .i64 (m : Int)]).run P w = .ok v' w' ∧ w'.ownsRow base e 1 v' (n + m) (xs ++ (Builtin.zeroCells z.cells m).toList) ∧ w.grownBy w' v.ownBlock ∧
      (∀ b, v'.ownBlock = some b → v.ownBlock = some b ∨ w.heap.size ≤ b) := by
  obtain ⟨i, hi, hz, hsz, hby⟩ := info_parts hinfo
  have hlen : (xs ++ (Builtin.zeroCells z.cells m).toList).length = (n + m) * 1 := by
    rw [List.length_append, hown.1, Array.length_toList, size_zeroCells, hzs]; omega
  have hzl : (Builtin.zeroCells z.cells m).toList.length = m := by rw [Array.length_toList, size_zeroCells, hzs]; omega
  have hwr : IntKind.i64.wrap (m : Int) = (m : Int) := k64 (by omega) (by omega)
  have hmb : m * bytes ≤ 1000000 * 1000 := Nat.mul_le_mul (by omega) hb
  have h1 : ¬ ((m : Int) < 0) := by omega
  have hm : m ≠ 0 := by omega
  have h4 : ¬ (281474976710656 < (m : Int) * (i.bytes : Int)) := by
    rw [hby]
    have : ((m * bytes : Nat) : Int) = (m : Int) * (bytes : Int) := Int.natCast_mul _ _
    omega
  rcases hown.2 with ⟨rfl, rfl⟩ | ⟨g, cap, cur, rfl, hbg, hg, hnc, hcm, hcs, htake⟩
  · have hx : xs = [] := List.eq_nil_of_length_eq_zero (by simpa using hown.1)
    subst hx
    have hge := grownCap_ge w m 0 e
    have hle := grownCap_le_maxLen w m 0 e (by unfold maxLen; omega)
    have h3 : ¬ (281474976710656 < Builtin.nextslicecap m 0 * i.bytes) := by rw [nextslicecap_zero (by omega), hby]; omega
    have h5 : ¬ (9223372036854775807 < (m : Int)) := by omega
    refine ⟨.slice (some ⟨w.heap.size, 0, none⟩) m (grownCap w m 0 e), w.drew.alloc (.cells (Builtin.zeroCells z.cells m ++ Builtin.zeroCells z.cells (grownCap w m 0 e - m)) e), ?_, ?_, ?_, fun b hb => .inr ?_⟩
    · simp [Builtin.append_, run_underlying ht, run_underlying hti, sizeOf, typeInfo, zeroValue, hi, hz, hsz, Builtin.firstCells, asInt, asIntOf, hwr, h1, h3, h4, h5, hm, Question.forced, newRow, grownCap, loadCells, loadCellsFrom]
    · rw [Nat.zero_add] at hlen ⊢
      refine ⟨hlen, .inr ⟨w.heap.size, _, _, rfl, hbase, heap_alloc_new w.drew _, hge, hle, ?_, ?_⟩⟩
      · simp only [Array.size_append, size_zeroCells, hzs]; omega
      · simp only [Array.toList_append, List.nil_append]
        rw [List.take_left' (by rw [hzl]; omega)]
    · exact ⟨rfl, rfl, rfl, by simp, fun k hk _ => heap_alloc_old w.drew _ hk⟩
    · simp only [Value.ownBlock, Option.some.injEq] at hb; omega
  · have hnews1 : ∀ u ∈ (Builtin.zeroCells z.cells m).toList, u.oneCell' = true := fun u hu => by
      rw [Array.mem_toList_iff] at hu
      simp only [Builtin.zeroCells, Array.mem_map, Array.mem_range] at hu
      obtain ⟨k, hk, rfl⟩ := hu
      rw [hzs, Nat.mod_one]
      have h0 : 0 < z.cells.size := by omega
      rw [getElem!_pos z.cells 0 h0]
      exact hz1 _ (Array.mem_toList_iff.2 (Array.getElem_mem _))
    by_cases hroom : n + m ≤ cap
    · have hfit : n * 1 + (Builtin.zeroCells z.cells m).toList.length ≤ cur.size := by rw [hzl, hcs]; omega
      have hst := run_storeCells_at P g (n * 1) e (Builtin.zeroCells z.cells m).toList 0 cur w hg (by simpa using hfit) hnews1
      simp only [Nat.add_zero, Nat.mul_one] at hst hfit
      refine ⟨.slice (some ⟨g, 0, none⟩) (n + m) cap, w.setRow g (cur.toList.take n ++ (Builtin.zeroCells z.cells m).toList ++ cur.toList.drop (n + (Builtin.zeroCells z.cells m).toList.length)).toArray, ?_, ?_, ?_, fun b hb => .inl hb⟩
      · simp [Builtin.append_, run_underlying ht, run_underlying hti, sizeOf, typeInfo, zeroValue, hi, hz, hsz, asInt, asIntOf, hwr, h1, h4, hm, hroom, Addr.add_lit, hst]
      · refine ⟨hlen, .inr ⟨g, cap, _, rfl, hbg, setRow_heap w g cur _ e _ hg, hroom, hcm, ?_, ?_⟩⟩
        · simp only [List.size_toArray, List.length_append, List.length_take, List.length_drop, Array.length_toList] at *
          omega
        · rw [Nat.mul_one] at htake
          rw [htake, ← hlen]
          exact List.take_left
      · exact ⟨rfl, rfl, rfl, by simp, fun k _ hk => setRow_other w g k _ (fun e => hk (by simp [Value.ownBlock, e]))⟩
    · have holds : ∀ j u, xs[j]? = some u → w.cell? ((⟨g, 0, none⟩ : Addr).add j) = some u := hown.cells (g := g) rfl
      have hge := grownCap_ge w (n + m) cap e
      have hle := grownCap_le_maxLen w (n + m) cap e (by unfold maxLen; omega)
      have hfo := run_firstCells_some (P := P) w.drew 1 n ⟨g, 0, none⟩ n cap xs hown.1 (by simpa using holds)
      have h3 : ¬ (281474976710656 < Builtin.nextslicecap (n + m) cap * i.bytes) := by
        have := growslice_fits (need := n + m) (old := cap) (bytes := i.bytes) (by omega) (by rw [hby]; have := Nat.mul_le_mul hnm hb; omega)
        omega
      have h5 : ¬ (9223372036854775807 < (n : Int) + (m : Int)) := by omega
      refine ⟨.slice (some ⟨w.heap.size, 0, none⟩) (n + m) (grownCap w (n + m) cap e), w.drew.alloc (.cells (xs.toArray ++ Builtin.zeroCells z.cells m ++ Builtin.zeroCells z.cells (grownCap w (n + m) cap e - (n + m))) e), ?_, ?_, ?_, fun b hb => .inr ?_⟩
      · simp [Builtin.append_, run_underlying ht, run_underlying hti, sizeOf, typeInfo, zeroValue, hi, hz, hsz, asInt, asIntOf, hwr, h1, h3, h4, h5, hm, hroom, Question.forced, hfo, newRow, grownCap]
      · refine ⟨hlen, .inr ⟨w.heap.size, _, _, rfl, hbase, heap_alloc_new w.drew _, hge, hle, ?_, ?_⟩⟩
        · have := hown.1
          simp only [Array.size_append, List.size_toArray, size_zeroCells, hzs]; omega
        · simp only [Array.toList_append, List.append_assoc]
          rw [← List.append_assoc, ← hlen]
          exact List.take_left
      · exact ⟨rfl, rfl, rfl, by simp, fun k hk _ => heap_alloc_old w.drew _ hk⟩
      · simp only [Value.ownBlock, Option.some.injEq] at hb; omega

theorem zeroCells_get {z : Value} (hzs : z.cells.size = 1) {m j : Nat} (hj : j < m) : (Builtin.zeroCells z.cells m).toList[j]? = some (z.cells[0]!) := by
  simp [Builtin.zeroCells, hzs, hj, Nat.mod_one]
/-- .. the content said by the index -/
theorem run_append_make_F {P : Program} (w : World) (t ti ty e : TypeId) (z : Value) (bytes : Nat) (ht : P.underlying t = some (.slice e)) (hti : P.underlying ti = some (.int .i64))
    (hinfo : (P.info? e).map (fun i => (i.zero, i.size, i.bytes)) = some (some z, 1, bytes)) (hzs : z.cells.size = 1) (hz1 : ∀ u ∈ z.cells.toList, u.oneCell' = true) (hb : bytes ≤ 1000) (hb0 : 0 < bytes)
    (lo hi' : Nat) (v : Value) (n : Nat) (f : Nat → Value) (hown : OwnF w lo hi' e v n f) (hlo : lo ≤ w.heap.size) (hhi : hi' ≤ w.heap.size) (m : Nat) (hm0 : 0 < m) (hnm : n + m ≤ 1000000) :
    ∃ v' w', (Builtin.append_ #[t, ti] ty #[v, .int .i64 (m : Int)]).run P w = .ok v' w' ∧ OwnF w' lo w'.heap.size e v' (n + m) (fun j => if j < n then f j else z.cells[0]!) ∧ w.grownBy w' v.ownBlock ∧
      (∀ b, v'.ownBlock = some b → v.ownBlock = some b ∨ w.heap.size ≤ b) := by
  obtain ⟨xs, ho, hf⟩ := hown
  obtain ⟨v', w', hr, h2, h3, h4⟩ := run_append_make_own (P := P) w lo t ti ty e z bytes ht hti hinfo hzs hz1 hb hb0 v n xs ho.1 m hm0 hnm hlo
  refine ⟨v', w', hr, ⟨_, Own.of_row h2, fun j hj => ?_⟩, h3, h4⟩
  have hl : xs.length = n := by have := ho.len; omega
  by_cases h : j < n
  · simp only [h, if_true]
    rw [List.getElem?_append_left (by omega), hf j h]
  · simp only [h, if_false]
    rw [List.getElem?_append_right (by omega), hl]
    exact zeroCells_get hzs (by omega)
theorem wpList_append_make_F {P : Program} {w : World} {ops : Array Oper} {rest : List Oper} {o : Oper} {a : Act} {Q : Exit → Act → World → Prop} (hgd : o.guard = none) (s x : Operand) (t ti : TypeId)
    (ho : o.op = .call { callee := .builtin .append, args := #[s, x], argTypes := #[t, ti] })
    (e : TypeId) (z : Value) (bytes : Nat) (ht : P.underlying t = some (.slice e)) (hti : P.underlying ti = some (.int .i64))
    (hinfo : (P.info? e).map (fun i => (i.zero, i.size, i.bytes)) = some (some z, 1, bytes)) (hzs : z.cells.size = 1) (hz1 : ∀ u ∈ z.cells.toList, u.oneCell' = true) (hb : bytes ≤ 1000) (hb0 : 0 < bytes)
    (lo hi' : Nat) (v : Value) (n : Nat) (f : Nat → Value) (hs : a.eval s = v) (hown : OwnF w lo hi' e v n f) (hlo : lo ≤ w.heap.size) (hhi : hi' ≤ w.heap.size) (m : Nat) (hx : a.eval x = .int .i64 (m : Int)) (hm0 : 0 < m) (hnm : n + m ≤ 1000000)
    (h : ∀ v' w', OwnF w' lo w'.heap.size e v' (n + m) (fun j => if j < n then f j else z.cells[0]!) → w.grownBy w' v.ownBlock → (∀ b, v'.ownBlock = some b → v.ownBlock = some b ∨ w.heap.size ≤ b) → wpList P ops Q rest (a.put o.dst v') w') :
    wpList P ops Q (o :: rest) a w := by
  refine wpList_plain hgd fun K hK' => ?_
  obtain ⟨v', w', hr, h2, h3, h4⟩ := run_append_make_F (P := P) w t ti o.type e z bytes ht hti hinfo hzs hz1 hb hb0 lo hi' v n f hown hlo hhi m hm0 hnm
  unfold Oper.wp
  simp [execOp, ho, resolve, invoke, builtin, hs, hx, hr, Result.andThen]
  exact hK' _ _ (h v' w' h2 h3 h4)
theorem step_append_make_F {P : Program} {w : World} {ops : Array Oper} {o : Oper} {a : Act} {K : Act → World → Prop} {Q : Exit → Act → World → Prop} {E : Prop} (hgd : o.guard = none) (s x : Operand) (t ti : TypeId)
    (ho : o.op = .call { callee := .builtin .append, args := #[s, x], argTypes := #[t, ti] })
    (e : TypeId) (z : Value) (bytes : Nat) (ht : P.underlying t = some (.slice e)) (hti : P.underlying ti = some (.int .i64))
    (hinfo : (P.info? e).map (fun i => (i.zero, i.size, i.bytes)) = some (some z, 1, bytes)) (hzs : z.cells.size = 1) (hz1 : ∀ u ∈ z.cells.toList, u.oneCell' = true) (hb : bytes ≤ 1000) (hb0 : 0 < bytes)
    (lo hi' : Nat) (v : Value) (n : Nat) (f : Nat → Value) (hs : a.eval s = v) (hown : OwnF w lo hi' e v n f) (hlo : lo ≤ w.heap.size) (hhi : hi' ≤ w.heap.size) (m : Nat) (hx : a.eval x = .int .i64 (m : Int)) (hm0 : 0 < m) (hnm : n + m ≤ 1000000)
    (h : ∀ v' w', OwnF w' lo w'.heap.size e v' (n + m) (fun j => if j < n then f j else z.cells[0]!) → w.grownBy w' v.ownBlock → (∀ b, v'.ownBlock = some b → v.ownBlock = some b ∨ w.heap.size ≤ b) → K (a.put o.dst v') w') :
    if Region.wanted o (yielded ops a.tmps) = true then Oper.wp P o a w K Q else E := by
  have hw : Region.wanted o (yielded ops a.tmps) = true := by simp [Region.wanted, hgd]
  rw [if_pos hw]
  obtain ⟨v', w', hr, h2, h3, h4⟩ := run_append_make_F (P := P) w t ti o.type e z bytes ht hti hinfo hzs hz1 hb hb0 lo hi' v n f hown hlo hhi m hm0 hnm
  unfold Oper.wp
  simp [execOp, ho, resolve, invoke, builtin, hs, hx, hr, Result.andThen]
  exact h v' w' h2 h3 h4

end Go.Proofs.Ytpfefjdefopccaa

namespace Go.Proofs.Ytpfefjdefopccaa
set_option linter.all false
open Go.RowKit

/-- the first i rows of a corner of b columns -/
def cornL (c b : Nat) (D : List Int) (i : Nat) : List Int := (List.range (i * b)).map fun t => D.getD ((t / b) * c + t % b) 0
theorem cornL_length (c b : Nat) (D : List Int) (i : Nat) : (cornL c b D i).length = i * b := by simp [cornL]
theorem cornL_getD {c b : Nat} {D : List Int} {i k j : Nat} (hk : k < i) (hj : j < b) : (cornL c b D i).getD (k * b + j) 0 = D.getD (k * c + j) 0 := by
  have h := mul_le_of (C := b) hk
  rw [Nat.add_mul, Nat.one_mul] at h
  obtain ⟨d1, d2⟩ := div_at (k := k) hj
  simp [cornL, List.getD_eq_getElem?_getD, show k * b + j < i * b by omega, d1, d2]

theorem cornL_mono {c b : Nat} {D : List Int} {i t : Nat} (h : t < i * b) : (cornL c b D i).getD t 0 = (cornL c b D (i + 1)).getD t 0 := by
  have h2 : t < (i + 1) * b := by rw [Nat.add_mul]; omega
  simp [cornL, List.getD_eq_getElem?_getD, h, h2]
theorem own_box {w : World} {lo hi : Nat} {Ti T : TypeId} {v : Value} {n b : Nat} {f : Nat → Value} {cs : Array Value} (h : OwnF w lo hi Ti v n f) (hz : w.heap[b]? = some (.cells cs T (0, 0))) (hT : Ti ≠ T) : v.ownBlock ≠ some b := by
  intro hv
  obtain ⟨zs, hz', _⟩ := h
  rcases Own.row hz' with ⟨e1, _⟩ | ⟨g, cap', F, e1, _, _, _, _, hr, _⟩
  · rw [e1] at hv; simp [Value.ownBlock] at hv
  · rw [e1] at hv
    simp only [Value.ownBlock, Option.some.injEq] at hv
    subst hv
    obtain ⟨c, hc, _⟩ := hr
    rw [hz] at hc
    injection hc with hc
    injection hc with _ hc
    exact hT hc.symm

theorem oper_append_F {P : Program} {w : World} {o : Oper} {a : Act} {K : Act → World → Prop} {Q : Exit → Act → World → Prop} (s x : Operand) (t : TypeId)
    (ho : o.op = .call { callee := .builtin .append, args := #[s, x], argTypes := #[t, t] })
    (e : TypeId) (z : Value) (bytes : Nat) (ht : P.underlying t = some (.slice e)) (hinfo : (P.info? e).map (fun i => (i.zero, i.size, i.bytes)) = some (some z, 1, bytes)) (hzs : z.cells.size = 1)
    (lo hi' : Nat) (v : Value) (n : Nat) (f : Nat → Value) (hs : a.eval s = v) (hown : OwnF w lo hi' e v n f) (hlo : lo ≤ w.heap.size) (hhi : hi' ≤ w.heap.size)
    (u : Value) (m : Nat) (g : Nat → Value) (hxu : a.eval x = u) (hx : Rd w u m g) (h1 : ∀ j, j < m → (g j).oneCell' = true) (h63 : n + m ≤ maxLen) (hbytes : (n + m) * bytes ≤ 140737488355328)
    (h : ∀ v' w', OwnF w' lo w'.heap.size e v' (n + m) (fun j => if j < n then f j else g (j - n)) → w.grownBy w' v.ownBlock → K (a.put o.dst v') w') :
    Oper.wp P o a w K Q := by
  obtain ⟨i, hi, hz, hsz, hby⟩ := info_parts hinfo
  obtain ⟨v', w', hr, h2, h3⟩ := run_append_F (P := P) w t o.type e i z bytes ht hi hz hsz hby hzs lo hi' v n f hown hlo hhi u m g hx h1 h63 hbytes
  unfold Oper.wp
  simp [execOp, ho, resolve, invoke, builtin, hs, hxu, hr, Result.andThen]
  exact h v' w' h2 h3

/-- what CornerRank returns -/
def CkIs (P R C : Int) (D : List Int) (a b r : Int) : Prop :=
  if mxOk P R C D = true ∧ (0 ≤ a ∧ a ≤ R) ∧ (0 ≤ b ∧ b ≤ C) then ∃ n : Nat, r = n ∧ HasRank P b.toNat a.toNat (mf C.toNat fun t => D.getD t 0) n else r = -1
theorem CkIs.one {P R C : Int} {D : List Int} {a b r r' : Int} (h : CkIs P R C D a b r) (h' : CkIs P R C D a b r') : r = r' := by
  unfold CkIs at h h'
  by_cases e : mxOk P R C D = true ∧ (0 ≤ a ∧ a ≤ R) ∧ (0 ≤ b ∧ b ≤ C)
  · rw [if_pos e] at h h'
    obtain ⟨n, rfl, h⟩ := h
    obtain ⟨n', rfl, h'⟩ := h'
    obtain ⟨_, _, _, _, _, _, _, _, _, hP, _⟩ := mxOk_facts e.1
    rw [h.one hP h']
  · rw [if_neg e] at h h'
    omega
theorem CkIs.eps {P R C : Int} {D : List Int} {a b r : Int} (h : CkIs P R C D a b r) : r = Classical.epsilon (CkIs P R C D a b) := h.one (Classical.epsilon_spec ⟨r, h⟩)
theorem CkIs.no {P R C : Int} {D : List Int} {a b : Int} (h : ¬ (mxOk P R C D = true ∧ (0 ≤ a ∧ a ≤ R) ∧ (0 ≤ b ∧ b ≤ C))) : CkIs P R C D a b (-1) := by
  unfold CkIs; rw [if_neg h]
theorem CkIs.yes {P : Int} {r c a b n : Nat} {D : List Int} (h : mxOk P r c D = true) (ha : a ≤ r) (hb : b ≤ c) (hn : HasRank P b a (mf c fun t => D.getD t 0) n) : CkIs P r c D a b n := by
  unfold CkIs
  rw [if_pos ⟨h, ⟨by omega, by omega⟩, ⟨by omega, by omega⟩⟩]
  exact ⟨n, rfl, hn⟩

end Go.Proofs.Ytpfefjdefopccaa

namespace Go.Proofs.Ytpfefjdefopccaa
set_option linter.all false
open Go.RowKit

/-- rows (x, x) of one, and (y, 0) of the other one -/
def mtM (c ra : Nat) (A B : Nat → Nat → Int) : Nat → Nat → Int := stackM ra (fun i j => if j < c then A i j else A i (j - c)) (fun i j => if j < c then B i j else 0)
/-- the rows that begin in the second half -/
def keptL (n c : Nat) (q : Nat → Nat) : List Nat := (List.range n).filter fun i => decide (c ≤ q i)
def keptM (c : Nat) (M : Nat → Nat → Int) (l : List Nat) (t j : Nat) : Int := M (l.getD t 0) (c + j)
/-- what is in common -/
def MtIs (P : Int) (c ra rb : Nat) (A B : Nat → Nat → Int) (m : Mx) : Prop :=
  ∃ n M q, IsRed P (2 * c) (ra + rb) (mtM c ra A B) n M q ∧ RowsIs P c (keptL n c q).length (keptM c M (keptL n c q)) m
theorem keptL_lt {n c t : Nat} {q : Nat → Nat} (h : t < (keptL n c q).length) : (keptL n c q).getD t 0 < n := by
  have : (keptL n c q).getD t 0 ∈ keptL n c q := by
    rw [List.getD_eq_getElem?_getD, List.getElem?_eq_getElem h]; exact List.getElem_mem _
  have := (List.mem_filter.1 this).1
  simpa using this
theorem keptL_congr {n c : Nat} {q q' : Nat → Nat} (h : ∀ i, i < n → q i = q' i) : keptL n c q = keptL n c q' := by
  unfold keptL
  refine List.filter_congr fun i hi => ?_
  rw [h i (by simpa using hi)]
theorem keptL_succ (n c : Nat) (q : Nat → Nat) : keptL (n + 1) c q = keptL n c q ++ (if c ≤ q n then [n] else []) := by
  unfold keptL
  rw [List.range_succ, List.filter_append]
  by_cases h : c ≤ q n <;> simp [h]
theorem keptL_le (n c : Nat) (q : Nat → Nat) : (keptL n c q).length ≤ n := by
  unfold keptL
  have := List.length_filter_le (fun i => decide (c ≤ q i)) (List.range n)
  simpa using this
theorem MtIs.one {P : Int} {c ra rb : Nat} {A B : Nat → Nat → Int} {m m' : Mx} (hP : 2 ≤ P) (h : MtIs P c ra rb A B m) (h' : MtIs P c ra rb A B m') : m = m' := by
  obtain ⟨n, M, q, h1, h2⟩ := h
  obtain ⟨n', M', q', h1', h2'⟩ := h'
  obtain ⟨e1, e2, e3⟩ := h1.one hP h1'
  subst e1
  rw [← keptL_congr e2] at h2'
  refine h2.one hP (h2'.same (SameSp.of_eqv fun t ht => .of_eq fun j hj => ?_))
  unfold keptM
  exact e3 _ _ (keptL_lt ht) (by omega)

/-- what MeetSpaces returns -/
def MeIs (P R C : Int) (D : List Int) (P' R' C' : Int) (D' : List Int) (m : Mx) (ok : Bool) : Prop :=
  (TwoIs P R C D P' R' C' D' ∧ ok = true ∧ MtIs P C.toNat R.toNat R'.toNat (mf C.toNat fun t => D.getD t 0) (mf C.toNat fun t => D'.getD t 0) m) ∨ (¬ TwoIs P R C D P' R' C' D' ∧ ok = false ∧ m = mxZero)
theorem MeIs.one {P R C : Int} {D : List Int} {P' R' C' : Int} {D' : List Int} (m : Mx) (b : Bool) (m' : Mx) (b' : Bool) (h : MeIs P R C D P' R' C' D' m b) (h' : MeIs P R C D P' R' C' D' m' b') : m = m' ∧ b = b' := by
  rcases h with ⟨t, rfl, h⟩ | ⟨t, rfl, rfl⟩
  · rcases h' with ⟨_, rfl, h'⟩ | ⟨t', _, _⟩
    · obtain ⟨_, _, _, _, _, _, _, _, _, hP, _⟩ := mxOk_facts t.1.1
      exact ⟨h.one hP h', rfl⟩
    · exact absurd t t'
  · rcases h' with ⟨t', _, _⟩ | ⟨_, rfl, rfl⟩
    · exact absurd t' t
    · exact ⟨rfl, rfl⟩
theorem meet_len (P R C : Int) (D : List Int) (P' R' C' : Int) (D' : List Int) : (Classical.epsilon (PrQ (MeIs P R C D P' R' C' D'))).1.D.length ≤ 1000 := by
  rcases PrQ.spec (MeIs P R C D P' R' C' D') with h | ⟨_, h⟩
  · rcases h with ⟨t, _, n, M, q, _, h⟩ | ⟨_, _, h⟩
    · obtain ⟨r, c, _, rfl, _, _, hc, _⟩ := mxOk_facts t.1.1
      exact h.len (by simp; omega)
    · rw [h]; simp [mxZero]
  · rw [h]; simp [mxZero]

theorem flat_ltW {n C i c : Nat} (hi : i < n) (hc : c < C) : i * C + c < n * C := by
  have : (i + 1) * C ≤ n * C := Nat.mul_le_mul_right C hi
  rw [Nat.succ_mul] at this
  omega
/-- rows of one width, one behind the other -/
def rowsF (k : Nat) (f : Nat → List Int) : List Int := (List.range k).flatMap f
theorem rowsF_succ (k : Nat) (f : Nat → List Int) : rowsF (k + 1) f = rowsF k f ++ f k := by
  unfold rowsF
  rw [List.range_succ, List.flatMap_append]; simp
theorem rowsF_length {k W : Nat} {f : Nat → List Int} (h : ∀ i, i < k → (f i).length = W) : (rowsF k f).length = k * W := by
  induction k with
  | zero => simp [rowsF]
  | succ k ih => rw [rowsF_succ, List.length_append, ih fun i hi => h i (by omega), h k (by omega), Nat.succ_mul]
theorem rowsF_getD {k W : Nat} {f : Nat → List Int} (h : ∀ i, i < k → (f i).length = W) {i j : Nat} (hi : i < k) (hj : j < W) : (rowsF k f).getD (i * W + j) 0 = (f i).getD j 0 := by
  induction k with
  | zero => omega
  | succ k ih =>
    have hl := rowsF_length (k := k) (fun i hi => h i (by omega))
    rw [rowsF_succ]
    by_cases e : i < k
    · have := flat_ltW e hj
      rw [List.getD_eq_getElem?_getD, List.getElem?_append_left (by omega), ← List.getD_eq_getElem?_getD]
      exact ih (fun i hi => h i (by omega)) e
    · obtain rfl : i = k := by omega
      rw [List.getD_eq_getElem?_getD, List.getElem?_append_right (by omega), ← List.getD_eq_getElem?_getD, hl, Nat.add_sub_cancel_left]

end Go.Proofs.Ytpfefjdefopccaa
