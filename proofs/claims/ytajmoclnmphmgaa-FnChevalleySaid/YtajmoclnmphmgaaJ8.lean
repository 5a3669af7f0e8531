/-
  For regions that draw their order: append as a step; what is kept of two boxes and the result's cell.
  The inverse permutation, on both sides.
  The identity, as the reference makes it.
  Lengths and words of permutations. Plain.
  The reference's sums over subwords. Plain.
  Values of permutations' polynomials at numbers that a permutation picks: the recursion, where they vanish, and the products over inversions. Plain.
  l1Rank, RankAt: how many of the first r numbers of a permutation are less than c.
  The order of permutations by their ranks. Plain.
-/
import Derived.Test.YtajmoclnmphmgaaJ6
import Derived.Test.YtajmoclnmphmgaaJ4
import Derived.Test.YtajmoclnmphmgaaJ5
import Derived.Test.YtajmoclnmphmgaaJ7
namespace Go.Proofs.Ytajmoclnmphmgaa
set_option linter.all false
open Go.RowKit

/-- append, as a step of a region that draws -/
theorem step_append_F {P : Program} {w : World} {ops : Array Oper} {o : Oper} {a : Act} {K : Act → World → Prop} {Q : Exit → Act → World → Prop} {E : Prop} (hgd : o.guard = none) (s x : Operand) (t : TypeId)
    (ho : o.op = .call { callee := .builtin .append, args := #[s, x], argTypes := #[t, t] })
    (e : TypeId) (z : Value) (bytes : Nat) (ht : P.underlying t = some (.slice e)) (hinfo : (P.info? e).map (fun i => (i.zero, i.size, i.bytes)) = some (some z, 1, bytes)) (hzs : z.cells.size = 1)
    (lo hi' : Nat) (v : Value) (n : Nat) (f : Nat → Value) (hs : a.eval s = v) (hown : OwnF w lo hi' e v n f) (hlo : lo ≤ w.heap.size) (hhi : hi' ≤ w.heap.size)
    (u : Value) (m : Nat) (g : Nat → Value) (hxu : a.eval x = u) (hx : Rd w u m g) (h1 : ∀ j, j < m → (g j).oneCell' = true) (h63 : n + m ≤ maxLen) (hbytes : (n + m) * bytes ≤ 140737488355328)
    (h : ∀ v' w', OwnF w' lo w'.heap.size e v' (n + m) (fun j => if j < n then f j else g (j - n)) → w.grownBy w' v.ownBlock → K (a.put o.dst v') w') :
    if Region.wanted o (yielded ops a.tmps) = true then Oper.wp P o a w K Q else E := by
  have hw : Region.wanted o (yielded ops a.tmps) = true := by simp [Region.wanted, hgd]
  rw [if_pos hw]
  obtain ⟨i, hi, hz, hsz, hby⟩ := info_parts hinfo
  obtain ⟨v', w', hr, h2, h3⟩ := run_append_F (P := P) w t o.type e i z bytes ht hi hz hsz hby hzs lo hi' v n f hown hlo hhi u m g hx h1 h63 hbytes
  unfold Oper.wp
  simp [execOp, ho, resolve, invoke, builtin, hs, hxu, hr, Result.andThen]
  exact h v' w' h2 h3

theorem grownBy_below2 {w w' : World} {v : Value} {lo hi : Nat} {T : TypeId} {n : Nat} {f : Nat → Value} (h : w.grownBy w' v.ownBlock) (ho : OwnF w lo hi T v n f) {B : Nat} (h1 : B ≤ lo) (h2 : B ≤ w.heap.size) : Below B w w' :=
  grownBy_below h ho.blocks h1 h2

/-- eight cells that are read, and a block for the result -/
theorem keep9 {w W W' : World} {a0 a1 a2 a3 a4 a5 a6 a7 : Addr} {v0 v1 v2 v3 v4 v5 v6 v7 : Value} {b : Nat} {T : TypeId} (hb : Below W.heap.size W W')
    (h : ((W.cell? a0 = some v0 ∧ W.cell? a1 = some v1 ∧ W.cell? a2 = some v2 ∧ W.cell? a3 = some v3 ∧ W.cell? a4 = some v4 ∧ W.cell? a5 = some v5 ∧ W.cell? a6 = some v6 ∧ W.cell? a7 = some v7) ∧ ∃ y0 y1 y2 y3, W.heap[b]? = some (.cells #[y0, y1, y2, y3] T (0, 0))) ∧ Below w.heap.size w W) :
    ((W'.cell? a0 = some v0 ∧ W'.cell? a1 = some v1 ∧ W'.cell? a2 = some v2 ∧ W'.cell? a3 = some v3 ∧ W'.cell? a4 = some v4 ∧ W'.cell? a5 = some v5 ∧ W'.cell? a6 = some v6 ∧ W'.cell? a7 = some v7) ∧ ∃ y0 y1 y2 y3, W'.heap[b]? = some (.cells #[y0, y1, y2, y3] T (0, 0))) ∧ Below w.heap.size w W' := by
  obtain ⟨⟨⟨h0, h1, h2, h3, h4, h5, h6, h7⟩, y0, y1, y2, y3, hy⟩, hB⟩ := h
  exact ⟨⟨⟨cell_below hb h0, cell_below hb h1, cell_below hb h2, cell_below hb h3, cell_below hb h4, cell_below hb h5, cell_below hb h6, cell_below hb h7⟩, y0, y1, y2, y3, blk_later hy hb⟩, hB.trans (hb.mono hB.size)⟩
theorem keep9_gen {w W W' : World} {b1 b2 o0 o1 o2 o3 o4 o5 o6 o7 : Nat} {v0 v1 v2 v3 v4 v5 v6 v7 z0 z1 z2 z3 : Value} {b : Nat} {T : TypeId} (hh : W'.heap[b1]? = W.heap[b1]?) (hh2 : W'.heap[b2]? = W.heap[b2]?) (hy : W'.heap[b]? = some (.cells #[z0, z1, z2, z3] T (0, 0))) (hB : Below w.heap.size w W')
    (h : W.cell? ⟨b1, o0, none⟩ = some v0 ∧ W.cell? ⟨b1, o1, none⟩ = some v1 ∧ W.cell? ⟨b1, o2, none⟩ = some v2 ∧ W.cell? ⟨b1, o3, none⟩ = some v3 ∧ W.cell? ⟨b2, o4, none⟩ = some v4 ∧ W.cell? ⟨b2, o5, none⟩ = some v5 ∧ W.cell? ⟨b2, o6, none⟩ = some v6 ∧ W.cell? ⟨b2, o7, none⟩ = some v7) :
    ((W'.cell? ⟨b1, o0, none⟩ = some v0 ∧ W'.cell? ⟨b1, o1, none⟩ = some v1 ∧ W'.cell? ⟨b1, o2, none⟩ = some v2 ∧ W'.cell? ⟨b1, o3, none⟩ = some v3 ∧ W'.cell? ⟨b2, o4, none⟩ = some v4 ∧ W'.cell? ⟨b2, o5, none⟩ = some v5 ∧ W'.cell? ⟨b2, o6, none⟩ = some v6 ∧ W'.cell? ⟨b2, o7, none⟩ = some v7) ∧ ∃ y0 y1 y2 y3, W'.heap[b]? = some (.cells #[y0, y1, y2, y3] T (0, 0))) ∧ Below w.heap.size w W' := by
  obtain ⟨h0, h1, h2, h3, h4, h5, h6, h7⟩ := h
  refine ⟨⟨⟨?_, ?_, ?_, ?_, ?_, ?_, ?_, ?_⟩, z0, z1, z2, z3, hy⟩, hB⟩
  · rw [World.cell?_of_block (w := W) hh]; exact h0
  · rw [World.cell?_of_block (w := W) hh]; exact h1
  · rw [World.cell?_of_block (w := W) hh]; exact h2
  · rw [World.cell?_of_block (w := W) hh]; exact h3
  · rw [World.cell?_of_block (w := W) hh2]; exact h4
  · rw [World.cell?_of_block (w := W) hh2]; exact h5
  · rw [World.cell?_of_block (w := W) hh2]; exact h6
  · rw [World.cell?_of_block (w := W) hh2]; exact h7
theorem heap_set4 {W : World} {b1 b : Nat} (hne : b1 ≠ b) (x0 x1 x2 x3 : Value) : ((((W.setCell ⟨b, 0, none⟩ x0).setCell ⟨b, 1, none⟩ x1).setCell ⟨b, 2, none⟩ x2).setCell ⟨b, 3, none⟩ x3).heap[b1]? = W.heap[b1]? := by
  rw [Below.heap_setCell _ _ _ _ (show b1 ≠ (⟨b, 3, none⟩ : Addr).block from hne), Below.heap_setCell _ _ _ _ (show b1 ≠ (⟨b, 2, none⟩ : Addr).block from hne), Below.heap_setCell _ _ _ _ (show b1 ≠ (⟨b, 1, none⟩ : Addr).block from hne), Below.heap_setCell _ _ _ _ (show b1 ≠ (⟨b, 0, none⟩ : Addr).block from hne)]
theorem keep9_set {w W : World} {b1 b2 o0 o1 o2 o3 o4 o5 o6 o7 : Nat} {v0 v1 v2 v3 v4 v5 v6 v7 : Value} {b : Nat} {T : TypeId} (hne : b1 ≠ b) (hne2 : b2 ≠ b) (hbw : w.heap.size ≤ b) (x0 x1 x2 x3 : Value)
    (h : ((W.cell? ⟨b1, o0, none⟩ = some v0 ∧ W.cell? ⟨b1, o1, none⟩ = some v1 ∧ W.cell? ⟨b1, o2, none⟩ = some v2 ∧ W.cell? ⟨b1, o3, none⟩ = some v3 ∧ W.cell? ⟨b2, o4, none⟩ = some v4 ∧ W.cell? ⟨b2, o5, none⟩ = some v5 ∧ W.cell? ⟨b2, o6, none⟩ = some v6 ∧ W.cell? ⟨b2, o7, none⟩ = some v7) ∧ ∃ y0 y1 y2 y3, W.heap[b]? = some (.cells #[y0, y1, y2, y3] T (0, 0))) ∧ Below w.heap.size w W) :
    ((((((W.setCell ⟨b, 0, none⟩ x0).setCell ⟨b, 1, none⟩ x1).setCell ⟨b, 2, none⟩ x2).setCell ⟨b, 3, none⟩ x3).cell? ⟨b1, o0, none⟩ = some v0 ∧ ((((W.setCell ⟨b, 0, none⟩ x0).setCell ⟨b, 1, none⟩ x1).setCell ⟨b, 2, none⟩ x2).setCell ⟨b, 3, none⟩ x3).cell? ⟨b1, o1, none⟩ = some v1 ∧
      ((((W.setCell ⟨b, 0, none⟩ x0).setCell ⟨b, 1, none⟩ x1).setCell ⟨b, 2, none⟩ x2).setCell ⟨b, 3, none⟩ x3).cell? ⟨b1, o2, none⟩ = some v2 ∧ ((((W.setCell ⟨b, 0, none⟩ x0).setCell ⟨b, 1, none⟩ x1).setCell ⟨b, 2, none⟩ x2).setCell ⟨b, 3, none⟩ x3).cell? ⟨b1, o3, none⟩ = some v3 ∧
      ((((W.setCell ⟨b, 0, none⟩ x0).setCell ⟨b, 1, none⟩ x1).setCell ⟨b, 2, none⟩ x2).setCell ⟨b, 3, none⟩ x3).cell? ⟨b2, o4, none⟩ = some v4 ∧ ((((W.setCell ⟨b, 0, none⟩ x0).setCell ⟨b, 1, none⟩ x1).setCell ⟨b, 2, none⟩ x2).setCell ⟨b, 3, none⟩ x3).cell? ⟨b2, o5, none⟩ = some v5 ∧
      ((((W.setCell ⟨b, 0, none⟩ x0).setCell ⟨b, 1, none⟩ x1).setCell ⟨b, 2, none⟩ x2).setCell ⟨b, 3, none⟩ x3).cell? ⟨b2, o6, none⟩ = some v6 ∧ ((((W.setCell ⟨b, 0, none⟩ x0).setCell ⟨b, 1, none⟩ x1).setCell ⟨b, 2, none⟩ x2).setCell ⟨b, 3, none⟩ x3).cell? ⟨b2, o7, none⟩ = some v7) ∧
      ∃ y0 y1 y2 y3, ((((W.setCell ⟨b, 0, none⟩ x0).setCell ⟨b, 1, none⟩ x1).setCell ⟨b, 2, none⟩ x2).setCell ⟨b, 3, none⟩ x3).heap[b]? = some (.cells #[y0, y1, y2, y3] T (0, 0))) ∧
      Below w.heap.size w ((((W.setCell ⟨b, 0, none⟩ x0).setCell ⟨b, 1, none⟩ x1).setCell ⟨b, 2, none⟩ x2).setCell ⟨b, 3, none⟩ x3) := by
  obtain ⟨⟨hc, y0, y1, y2, y3, hy⟩, hB⟩ := h
  have hy4 := set4_all hy x0 x1 x2 x3
  have hB4 := below_set4 hB hbw x0 x1 x2 x3
  exact keep9_gen (heap_set4 hne x0 x1 x2 x3) (heap_set4 hne2 x0 x1 x2 x3) hy4 hB4 hc
theorem s9_blk {w W : World} {c : Prop} {b : Nat} {T : TypeId}
    (h : (c ∧ ∃ y0 y1 y2 y3, W.heap[b]? = some (.cells #[y0, y1, y2, y3] T (0, 0))) ∧ Below w.heap.size w W) :
    ∃ y0 y1 y2 y3, W.heap[b]? = some (.cells #[y0, y1, y2, y3] T (0, 0)) := h.1.2

/-- .. where what changed lies from B on -/
theorem keep9B {w W W' : World} {B b1 b2 o0 o1 o2 o3 o4 o5 o6 o7 : Nat} {v0 v1 v2 v3 v4 v5 v6 v7 : Value} {b : Nat} {T : TypeId} (hb : Below B W W') (hB1 : b1 < B) (hB2 : b2 < B) (hB3 : b < B) (hw : w.heap.size ≤ B)
    (h : ((W.cell? ⟨b1, o0, none⟩ = some v0 ∧ W.cell? ⟨b1, o1, none⟩ = some v1 ∧ W.cell? ⟨b1, o2, none⟩ = some v2 ∧ W.cell? ⟨b1, o3, none⟩ = some v3 ∧ W.cell? ⟨b2, o4, none⟩ = some v4 ∧ W.cell? ⟨b2, o5, none⟩ = some v5 ∧ W.cell? ⟨b2, o6, none⟩ = some v6 ∧ W.cell? ⟨b2, o7, none⟩ = some v7) ∧ ∃ y0 y1 y2 y3, W.heap[b]? = some (.cells #[y0, y1, y2, y3] T (0, 0))) ∧ Below w.heap.size w W) :
    ((W'.cell? ⟨b1, o0, none⟩ = some v0 ∧ W'.cell? ⟨b1, o1, none⟩ = some v1 ∧ W'.cell? ⟨b1, o2, none⟩ = some v2 ∧ W'.cell? ⟨b1, o3, none⟩ = some v3 ∧ W'.cell? ⟨b2, o4, none⟩ = some v4 ∧ W'.cell? ⟨b2, o5, none⟩ = some v5 ∧ W'.cell? ⟨b2, o6, none⟩ = some v6 ∧ W'.cell? ⟨b2, o7, none⟩ = some v7) ∧ ∃ y0 y1 y2 y3, W'.heap[b]? = some (.cells #[y0, y1, y2, y3] T (0, 0))) ∧ Below w.heap.size w W' := by
  obtain ⟨⟨hc, y0, y1, y2, y3, hy⟩, hB⟩ := h
  exact keep9_gen (hb.block _ hB1) (hb.block _ hB2) ((hb.block _ hB3).trans hy) (hB.trans (hb.mono hw)) hc
theorem held_lt {w W : World} {c : Prop} {b : Nat} {T : TypeId} (h : (c ∧ ∃ y0 y1 y2 y3, W.heap[b]? = some (.cells #[y0, y1, y2, y3] T (0, 0))) ∧ Below w.heap.size w W) : b + 1 ≤ W.heap.size := by
  obtain ⟨y0, y1, y2, y3, hy⟩ := h.1.2
  exact blk_lt hy

/-- one list behind another one -/
theorem own_join {T : TypeId} {w : World} {lo hi : Nat} {v : Value} {xs ys : List Int} (h : OwnF w lo hi T v (xs.length + ys.length) (fun j => if j < xs.length then iv xs j else iv ys (j - xs.length))) : OwnI T w lo hi v (xs ++ ys) := by
  refine OwnF.ints ?_
  rw [List.length_append]
  exact h.congr fun j _ => iv_append rfl j

theorem OwnI.one {T : TypeId} {w : World} {lo hi : Nat} {v : Value} {xs : List Int} (h : OwnI T w lo hi v xs) : v.oneCell' = true := by
  obtain ⟨p, cap, rfl, _, _⟩ := h.shape
  rfl
/-- rows of the call's own, put behind others, as a step of a region that draws -/
theorem step_append_II {w : World} {ops : Array Oper} {o : Oper} {a : Act} {K : Act → World → Prop} {Q : Exit → Act → World → Prop} {E : Prop} (hgd : o.guard = none) (s x : Operand)
    (ho : o.op = .call { callee := .builtin .append, args := #[s, x], argTypes := #[47, 47] })
    (lo mid hi : Nat) (v u : Value) (rows rows2 : List (List Int)) (hs : a.eval s = v) (hxu : a.eval x = u)
    (h1 : OwnII 22 3 w lo mid v rows) (h2 : OwnII 22 3 w mid hi u rows2) (hm : lo ≤ mid) (hmh : mid ≤ hi) (hhi : hi ≤ w.heap.size) (hl : rows.length + rows2.length ≤ 1000)
    (h : ∀ v' w', OwnII 22 3 w' lo w'.heap.size v' (rows ++ rows2) → Below lo w w' → K (a.put o.dst v') w') :
    if Region.wanted o (yielded ops a.tmps) = true then Oper.wp Try.prog o a w K Q else E := by
  obtain ⟨f, g1, g2, g3⟩ := h1
  obtain ⟨g, k1, k2, k3⟩ := h2
  refine step_append_F hgd s x 47 ho 22 (.slice none 0 0) 24 Try.underlying47 info_sl rfl lo mid v rows.length f hs g1 (by omega) (by omega) u rows2.length g hxu k1.rd (fun j hj => (k2 j hj).one) (by unfold maxLen; omega) (by omega) ?_
  intro v' w' ho' hg'
  exact h v' w' (OwnII.join g1 g2 g3 k2 k3 hm hmh (by decide) hg' (Nat.le_trans hhi hg'.size) ho') (grownBy_below2 hg' g1 (Nat.le_refl _) (by omega))

/-- the boxes of two arguments -/
theorem boxes_ab (w : World) (A B : Obj) : ((w.alloc A).alloc B).heap[w.heap.size]? = some A ∧ ((w.alloc A).alloc B).heap[w.heap.size + 1]? = some B := by
  refine ⟨?_, heap_alloc_at _ _ (by simp)⟩
  rw [heap_alloc_low _ _ (by simp)]; exact heap_alloc_top _ _
/-- .. and the result's cell -/
theorem boxes_abz (w : World) (A B Z : Obj) : (((w.alloc A).alloc B).alloc Z).heap[w.heap.size]? = some A ∧ (((w.alloc A).alloc B).alloc Z).heap[w.heap.size + 1]? = some B ∧ (((w.alloc A).alloc B).alloc Z).heap[w.heap.size + 1 + 1]? = some Z := by
  refine ⟨?_, ?_, heap_alloc_at _ _ (by simp)⟩
  · rw [heap_alloc_low _ _ (by simp; omega)]; exact (boxes_ab w A B).1
  · rw [heap_alloc_low _ _ (by simp)]; exact (boxes_ab w A B).2
theorem size_ab (w : World) (A B : Obj) : ((w.alloc A).alloc B).heap.size = w.heap.size + 1 + 1 := by simp
theorem size_abz (w : World) (A B Z : Obj) : (((w.alloc A).alloc B).alloc Z).heap.size = w.heap.size + 1 + 1 + 1 := by simp

end Go.Proofs.Ytajmoclnmphmgaa

namespace Go.Proofs.Ytajmoclnmphmgaa
set_option linter.all false
open Go.RowKit

/-- where the number j stands among the first k -/
def invK (xs : List Int) : Nat → Nat → Int
  | 0, _ => 0
  | k + 1, j => if (j : Int) = xs.getD k 0 then k else invK xs k j
def invL (xs : List Int) : List Int := (List.range xs.length).map (invK xs xs.length)
theorem invL_length (xs : List Int) : (invL xs).length = xs.length := by simp [invL]
theorem invL_getD {xs : List Int} {j : Nat} (h : j < xs.length) : (invL xs).getD j 0 = invK xs xs.length j := by simp [invL, List.getD_eq_getElem?_getD, h]

set_option maxRecDepth 100000 in
set_option maxHeartbeats 2000000 in
theorem specInverse_any (v : Value) (xs : List Int) (w : World) (h : Ints w v xs) (hp : permOk xs = true) :
    Calls Try.prog 110 #[v] w (RetI w (invL xs)) := by
  have Hh := Lib.hid h
  obtain ⟨q, cap, rfl, ⟨hx1, hx⟩, hxc⟩ := h
  obtain ⟨hl1, hl7, hr, _⟩ := of_decide_eq_true hp
  have Hr := Lib.hid hr
  obtain ⟨b, off, rfl, hc⟩ := hxc (by omega)
  have Hc := Lib.hid hc
  obtain ⟨N, hN⟩ : ∃ N, N = xs.length := ⟨_, rfl⟩
  have hmk := run_make_row' (P := Try.prog) 22 3 (.int .i64 0) 8 Try.underlying22 info_int rfl .i64 .i64 N (by omega) (by omega)
  rw [hN] at hmk
  unfold maxLen at hx
  clear hr hxc hp hc
  go_enter Try.func110, Try.ntmps110
  go_wp2_with fail
  go_loopg [4] xs.length (fun g s4 wr => ∃ k : Nat, k ≤ xs.length ∧ g = xs.length - k ∧ s4 = .int .i64 k ∧ Below w.heap.size w wr ∧ Hid (wr.rowIs w.heap.size 3 xs.length (fun j => .int .i64 (invK xs k j))))
  case atStart =>
    refine ⟨0, Nat.zero_le _, rfl, rfl, below_alloc _ _, ?_⟩
    exact (World.rowIs_made w (.int .i64 0) xs.length 3).congr fun j _ => by simp [invK]
  case round =>
    obtain ⟨k, hk, rfl, rfl, hbw, hrow⟩ := hrel
    by_cases hlt : k < xs.length
    · have hx0 := Hr.out _ (getD_mem hlt)
      obtain ⟨m, hm⟩ := Int.eq_ofNat_of_zero_le hx0.1
      have c1 : wr.cell? ⟨b, off + k, none⟩ = some (.int .i64 (m : Int)) := by
        rw [hbw.cell (p := ⟨b, off + k, none⟩) (World.block_lt_of_cell? _ _ (Hc.out k hlt)), Hc.out k hlt]; simp only [iv, hm]
      have hml : m < xs.length := by omega
      obtain ⟨z, c2⟩ : ∃ z, wr.cell? ⟨w.heap.size, m, none⟩ = some (.int .i64 z) := ⟨_, hrow.out.cell hml⟩
      have c3 := hrow.out.frozen m
      have i1 : (k : Int) < (xs.length : Int) := by omega
      have i2 : (m : Int) < (xs.length : Int) := by omega
      have Hm := Lib.hid hm
      have Hrow := Lib.hid hrow.out
      clear hx0 hm hrow
      go_wp2_with fail
      go_roundg (xs.length - (k + 1))
      case measure => omega
      case rel =>
        refine ⟨k + 1, by omega, rfl, by go_num, hbw.setCell (Nat.le_refl _) _, (Hrow.out.set m _).congr fun j hj => ?_⟩
        rw [invK, Hm.out]
        by_cases e : j = m
        · subst e; simp
        · simp [e, show ¬ (j : Int) = (m : Int) by omega]
    · obtain rfl : k = xs.length := by omega
      have i1 : ¬ (xs.length : Int) < (xs.length : Int) := by omega
      have ho := rowIs_ints (xs := invL xs) (by rw [invL_length]; exact hrow.out.congr fun j hj => by rw [iv, invL_getD hj]) (by rw [invL_length]; unfold maxLen; omega)
      rw [invL_length] at ho
      have Ho := Lib.hid ho
      clear ho hrow
      go_wp2_with fail
      go_ret
      exact ⟨_, rfl, Ho.out, hbw⟩

end Go.Proofs.Ytajmoclnmphmgaa

namespace Go.Proofs.Ytajmoclnmphmgaa
set_option linter.all false
open Go.RowKit

/-- the identity of n -/
def idL (n : Nat) : List Int := (List.range n).map fun (i : Nat) => (i : Int)
theorem idL_length (n : Nat) : (idL n).length = n := by simp [idL]
theorem idL_getD {n i : Nat} (h : i < n) : (idL n).getD i 0 = i := by simp [idL, List.getD_eq_getElem?_getD, h]
theorem idL_succ (n : Nat) : idL (n + 1) = idL n ++ [(n : Int)] := by simp [idL, List.range_succ]
theorem idL_ok {n : Nat} (h1 : 1 ≤ n) (h7 : n ≤ 7) : permOk (idL n) = true := by
  have : n = 1 ∨ n = 2 ∨ n = 3 ∨ n = 4 ∨ n = 5 ∨ n = 6 ∨ n = 7 := by omega
  rcases this with rfl | rfl | rfl | rfl | rfl | rfl | rfl <;> decide

set_option maxRecDepth 100000 in
set_option maxHeartbeats 2000000 in
theorem specIdentity_any (n : Nat) (w : World) (h1 : 1 ≤ n) (h7 : n ≤ 7) :
    Calls Try.prog 95 #[.int .i64 (n : Int)] w (RetI w (idL n)) := by
  have hin : Hid ((1 : Int) ≤ n ∧ (n : Int) ≤ 7) := ⟨by omega, by omega⟩
  go_enter Try.func95, Try.ntmps95
  go_wp2_with fail
  refine (l1In_yes _ _ _ _ hin.out).mono ?_
  rintro e w' ⟨rfl, rfl⟩
  go_wp2_with fail
  go_loopg [3, 4] n (fun g s3 s4 wr => ∃ i : Nat, i ≤ n ∧ g = n - i ∧ s4 = .int .i64 i ∧ Hid (Below w.heap.size w wr) ∧ Hid (OwnI 3 wr w.heap.size wr.heap.size s3 (idL i)))
  case atStart =>
    refine ⟨0, Nat.zero_le _, rfl, rfl, below_alloc w _, ?_⟩
    exact OwnF.ints ((OwnF.made0 w 3 (iv [])).mono (Nat.le_refl _) (by simp))
  case round =>
    obtain ⟨i, hi, rfl, rfl, hb, ho⟩ := hrel
    have hsr := hb.out.size
    by_cases hlt : i < n
    · have hlt2 : (i : Int) < (n : Int) := by omega
      obtain ⟨p5, k5, rfl, _, _⟩ := ho.out.shape
      have hofn := ho.out.fn
      rw [idL_length] at hofn ⊢
      have Ho := Lib.hid hofn
      have Hb := Lib.hid hb.out
      have Hb1 := Lib.hid (show i + 1 ≤ maxLen by unfold maxLen; omega)
      have Hb2 := Lib.hid (show (i + 1) * 8 ≤ 140737488355328 by omega)
      clear ho hofn hb
      go_wp2_with (at_builtin; go_must (refine wpList_append_F rfl (.tmp 14) (.tmp 16) 22 rfl 3 (.int .i64 0) 8 Try.underlying22 info_int rfl w.heap.size wr.heap.size _ i (iv (idL i)) rfl (Ho.out.below (below_alloc wr _)) (by rw [size_alloc]; omega) (by rw [size_alloc]; omega) _ 1 _ rfl (rd_one _ _ _ rfl) (fun j _ => rfl) Hb1.out Hb2.out ?_; intro v2 w2 ho2 hg2))
      go_roundg (n - (i + 1))
      case measure => omega
      case rel =>
        have hbx : Below w.heap.size wr w2 := ((below_alloc wr _).mono (by omega)).trans (grownBy_below hg2 Ho.out.blocks (Nat.le_refl _) (by rw [size_alloc]; omega))
        refine ⟨i + 1, by omega, rfl, by go_num, Hb.out.trans hbx, ?_⟩
        rw [idL_succ]
        exact OwnI.snoc1 (by rw [idL_length]; exact ho2)
    · obtain rfl : i = n := by omega
      have hlt2 : ¬ (i : Int) < (i : Int) := by omega
      have Ho := Lib.hid ho.out
      have Hb := Lib.hid hb.out
      clear ho hb
      go_wp2_with fail
      go_ret
      exact ⟨_, rfl, Ho.out, Hb.out⟩


end Go.Proofs.Ytajmoclnmphmgaa

namespace Go.Proofs.Ytajmoclnmphmgaa
set_option linter.all false
open Go.RowKit

def lnK (xs : List Int) : Nat → Nat
  | 0 => 0
  | k + 1 => lnK xs k + cdA xs k
/-- how many inversions -/
def lnN (xs : List Int) : Nat := lnK xs xs.length
theorem lnK_le (xs : List Int) (h : xs.length ≤ 10) : ∀ k, k ≤ xs.length → lnK xs k ≤ k * 10
  | 0, _ => Nat.le_refl _
  | k + 1, hk => by
    have a := lnK_le xs h k (by omega)
    have b := cdK_le xs k (xs.length - (k + 1))
    rw [lnK]
    unfold cdA
    omega
/-- the first place where a list goes down -/
def fdN (b : List Int) : Nat := ((List.range (b.length - 1)).find? fun k => !ascB k b).getD 0
def frN (w : List Int) : Nat := fdN (invL w)
/-- the values k and k + 1 exchanged -/
def frV (w : List Int) (k : Nat) : List Int := (w.set ((invL w).getD k 0).toNat ((k + 1 : Nat) : Int)).set ((invL w).getD (k + 1) 0).toNat (k : Int)
def frS (w : List Int) : List Int := frV w (frN w)
def firL : Nat → List Int → List Nat
  | 0, _ => []
  | f + 1, w => frN w :: firL f (frS w)
/-- the word of the reference -/
def fstL (w : List Int) : List Nat := firL (lnN w) w
/-- a word played -/
def play (r : List Nat) (u : List Int) : List Int := r.foldl (fun u k => sw k u) u

def firB (w : List Int) : Bool := decide (lnN w = 0) || (decide (frN w + 1 < w.length) && !ascB (frN w) (invL w) && (List.range (frN w)).all (fun j => ascB j (invL w)) && permOk (frS w) && decide (lnN (frS w) + 1 = lnN w) && (invL w).all (fun x => decide (0 ≤ x ∧ x < (w.length : Int))))
def wrdB (w : List Int) : Bool := decide (play (fstL w) (idL w.length) = w) && (fstL w).all (fun k => decide (k + 1 < w.length)) && decide ((fstL w).length ≤ 10) && decide (lnN w + upN w = w.length * (w.length - 1) / 2)
set_option maxRecDepth 100000 in
theorem fir_all : all5 firB = true := by decide +kernel
set_option maxRecDepth 100000 in
theorem wrd_all : all5 wrdB = true := by decide +kernel
structure FirAt (w : List Int) : Prop where
  lt : frN w + 1 < w.length
  down : ascB (frN w) (invL w) = false
  up : ∀ j, j < frN w → ascB j (invL w) = true
  ok : permOk (frS w) = true
  less : lnN (frS w) + 1 = lnN w
  rng : ∀ j, j < w.length → ∃ m : Nat, (invL w).getD j 0 = (m : Int) ∧ m < w.length
theorem fir_at {n : Nat} {w : List Int} (h : P5 n w) (h0 : lnN w ≠ 0) : FirAt w := by
  have := all5_at fir_all h.ok (by have := h.len; have := h.le; omega)
  unfold firB at this
  rw [decide_eq_false h0, Bool.false_or] at this
  simp only [Bool.and_eq_true, decide_eq_true_eq, List.all_eq_true, List.mem_range] at this
  obtain ⟨⟨⟨⟨⟨h1, h2⟩, h3⟩, h4⟩, h5⟩, h6⟩ := this
  refine ⟨h1, by simpa using h2, h3, h4, h5, fun j hj => ?_⟩
  have := h6 _ (getD_mem (show j < (invL w).length by rw [invL_length]; exact hj))
  exact ⟨((invL w).getD j 0).toNat, by omega, by omega⟩
theorem wrd_at {n : Nat} {w : List Int} (h : P5 n w) : play (fstL w) (idL n) = w ∧ (∀ k ∈ fstL w, k + 1 < n) ∧ (fstL w).length ≤ 10 ∧ lnN w + upN w = n * (n - 1) / 2 := by
  have := all5_at wrd_all h.ok (by have := h.len; have := h.le; omega)
  unfold wrdB at this
  rw [h.len] at this
  simp only [Bool.and_eq_true, decide_eq_true_eq, List.all_eq_true] at this
  exact ⟨this.1.1.1, this.1.1.2, this.1.2, this.2⟩
theorem P5.mk' {w : List Int} (h : permOk w = true) (h5 : w.length ≤ 5) : P5 w.length w := ⟨h, rfl, h5⟩
theorem P5.rng {n : Nat} {w : List Int} (h : P5 n w) {j : Nat} (hj : j < n) : ∃ m : Nat, w.getD j 0 = (m : Int) ∧ m < n := by
  have hp := h.ok
  simp only [permOk, decide_eq_true_eq] at hp
  have := hp.2.2.1 _ (getD_mem (show j < w.length by rw [h.len]; exact hj))
  rw [h.len] at this
  exact ⟨(w.getD j 0).toNat, by omega, by omega⟩
theorem P5.id {n : Nat} (h1 : 1 ≤ n) (h5 : n ≤ 5) : P5 n (idL n) := ⟨idL_ok h1 (by omega), idL_length n, h5⟩

end Go.Proofs.Ytajmoclnmphmgaa

namespace Go.Proofs.Ytajmoclnmphmgaa
set_option linter.all false
set_option maxRecDepth 100000
open Go.RowKit

/-- the sum over the reduced words of v within a word -/
def sumS (v ys : List Int) : List Nat → List Int → List Int → Int
  | [], _, h => if h = v then 1 else 0
  | k :: r, u, h => sumS v ys r (sw k u) h + (if ascB k h then (ys.getD (u.getD (k + 1) 0).toNat 0 - ys.getD (u.getD k 0).toNat 0) * sumS v ys r (sw k u) (sw k h) else 0)

end Go.Proofs.Ytajmoclnmphmgaa

namespace Go.Proofs.Ytajmoclnmphmgaa
set_option linter.all false
set_option maxRecDepth 100000
open Go.RowKit

/-! ### at all numbers -/
theorem abs_le_sum {l : List Int} {i : Nat} : (l.getD i 0).natAbs ≤ (l.map Int.natAbs).sum := by
  induction l generalizing i with
  | nil => simp
  | cons x l ih =>
    cases i with
    | zero => simp
    | succ i =>
      have := ih (i := i)
      simp only [List.getD_cons_succ, List.map_cons, List.sum_cons]
      omega
/-- numbers moved apart by multiples of N -/
def mvd (N : Int) (m : Nat) (l : List Int) : List Int := (List.range m).map fun (i : Nat) => l.getD i 0 + N * (i : Int)
theorem mvd_length (N : Int) (m : Nat) (l : List Int) : (mvd N m l).length = m := by simp [mvd]
theorem mvd_getD {N : Int} {m : Nat} {l : List Int} {i : Nat} (h : i < m) : (mvd N m l).getD i 0 = l.getD i 0 + N * (i : Int) := by simp [mvd, List.getD_eq_getElem?_getD, h]
theorem mvd_mg {N : Int} {m : Nat} {l : List Int} (hl : l.length = m) (i : Nat) : Mg N (l.getD i 0) ((mvd N m l).getD i 0) := by
  by_cases h : i < m
  · rw [mvd_getD h]; exact ⟨-(i : Int), by rw [Int.mul_neg]; omega⟩
  · have a : l.getD i 0 = 0 := by rw [List.getD_eq_getElem?_getD, List.getElem?_eq_none (by omega)]; rfl
    have b : (mvd N m l).getD i 0 = 0 := by rw [List.getD_eq_getElem?_getD, List.getElem?_eq_none (by rw [mvd_length]; omega)]; rfl
    rw [a, b]; exact Mg.refl _ _
theorem mvd_ne {N : Int} {m : Nat} {l : List Int} (hN : 2 * ((l.map Int.natAbs).sum : Int) < N) {i j : Nat} (hij : i < j) (hj : j < m) : (mvd N m l).getD i 0 ≠ (mvd N m l).getD j 0 := by
  rw [mvd_getD (by omega), mvd_getD hj]
  intro e
  have a := abs_le_sum (l := l) (i := i)
  have b := abs_le_sum (l := l) (i := j)
  have c := Int.mul_le_mul_of_nonneg_left (show (1 : Int) ≤ (j : Int) - (i : Int) by omega) (show 0 ≤ N by omega)
  rw [Int.mul_one, Int.mul_sub] at c
  omega
theorem EV_mg {N : Int} {T : Pl} {v x x' : List Int} (h : ∀ i, Mg N (x.getD i 0) (x'.getD i 0)) : Mg N (EV T v x) (EV T v x') := Ev_mg (mono_mg h) _
theorem sw_mg {N : Int} {x x' : List Int} {k : Nat} (hk : k + 1 < x.length) (hk' : k + 1 < x'.length) (h : ∀ i, Mg N (x.getD i 0) (x'.getD i 0)) (i : Nat) : Mg N ((sw k x).getD i 0) ((sw k x').getD i 0) := by
  rw [sw_getD hk, sw_getD hk']
  split
  · exact h k
  · split
    · exact h (k + 1)
    · exact h i
theorem way_all {T : Pl} (hT : Pos7 T) {n : Nat} {v : List Int} (hv : P5 n v) {k : Nat} (hk : k + 1 < n) (ha : ascB k v = true) {x : List Int} (hx : x.length = 7) : WayAt T n v k x := by
  have h5 := hv.le
  unfold WayAt
  have key : (x.getD k 0 - x.getD (k + 1) 0) * EV T v x - (EV T (sw k v) x - EV T (sw k v) (sw k x)) = 0 := by
    refine Mg.zero (2 * ((x.map Int.natAbs).sum : Int)) fun N hN hN0 => ?_
    have hm := mvd_mg (N := N) hx
    have hl := mvd_length N 7 x
    have hd : Dst n (mvd N 7 x) := ⟨hl, fun i j hij hj => mvd_ne hN hij (by omega)⟩
    have hw := way_dst hT (upN v) v hv rfl k hk ha _ hd
    unfold WayAt at hw
    have e : (mvd N 7 x).getD k 0 - (mvd N 7 x).getD (k + 1) 0 = (mvd N 7 x).getD k 0 - (mvd N 7 x).getD (k + 1) 0 := rfl
    have := (((hm k).sub (hm (k + 1))).mul (EV_mg (T := T) (v := v) hm)).sub ((EV_mg (T := T) (v := sw k v) hm).sub (EV_mg (T := T) (v := sw k v) (sw_mg (x := x) (x' := mvd N 7 x) (k := k) (by omega) (by omega) hm)))
    rw [hw, Int.sub_self] at this
    exact this
  omega
/-! ### at the numbers that a permutation picks -/
theorem pickL_length (w ys : List Int) : (pickL w ys).length = 7 := by simp [pickL]
theorem pickL_at {w ys : List Int} {i : Nat} (h : i < w.length) (h7 : w.length ≤ 7) : (pickL w ys).getD i 0 = ys.getD (w.getD i 0).toNat 0 := by
  rw [pickL_getD _ _ (by omega)]; unfold pick; rw [if_pos h]
theorem pickL_sw {w ys : List Int} {k : Nat} (hk : k + 1 < w.length) (h7 : w.length ≤ 7) : pickL (sw k w) ys = sw k (pickL w ys) := by
  refine getD_eq_list (by rw [sw_length, pickL_length, pickL_length]) fun t ht => ?_
  rw [pickL_length] at ht
  have hk7 : k + 1 < (pickL w ys).length := by rw [pickL_length]; omega
  rw [sw_getD hk7, pickL_at (by omega) h7, pickL_at hk h7, pickL_getD _ _ ht, pickL_getD _ _ ht]
  unfold pick
  rw [sw_length, sw_getD hk]
  by_cases h1 : t = k + 1
  · rw [if_pos h1, if_pos h1, if_pos (by omega)]
  · by_cases h2 : t = k
    · rw [if_neg h1, if_pos h2, if_neg h1, if_pos h2, if_pos (by omega)]
    · rw [if_neg h1, if_neg h2, if_neg h1, if_neg h2]
theorem pickL_mg {N : Int} {w ys ys' : List Int} (h : ∀ i, Mg N (ys.getD i 0) (ys'.getD i 0)) (i : Nat) : Mg N ((pickL w ys).getD i 0) ((pickL w ys').getD i 0) := by
  by_cases h7 : i < 7
  · rw [pickL_getD _ _ h7, pickL_getD _ _ h7]
    unfold pick
    split
    · exact h _
    · exact Mg.refl _ _
  · have a : ∀ y, (pickL w y).getD i 0 = 0 := fun y => by rw [List.getD_eq_getElem?_getD, List.getElem?_eq_none (by rw [pickL_length]; omega)]; rfl
    rw [a, a]; exact Mg.refl _ _
/-- the value of v at w -/
def FW (n : Nat) (ys v w : List Int) : Int := EV (topI n ys n) v (pickL w ys)
theorem FW_mg {N : Int} {n : Nat} {ys ys' v w : List Int} (h : ∀ i, Mg N (ys.getD i 0) (ys'.getD i 0)) : Mg N (FW n ys v w) (FW n ys' v w) :=
  ((PMg.low (PMg.top h n n) 10 v) _).trans (Ev_mg (mono_mg (pickL_mg h)) _)
def df (ys w : List Int) (k : Nat) : Int := ys.getD (w.getD (k + 1) 0).toNat 0 - ys.getD (w.getD k 0).toNat 0
theorem FW_rec {n : Nat} {ys v w : List Int} (hv : P5 n v) (hw : P5 n w) {k : Nat} (hk : k + 1 < n) :
    FW n ys v (sw k w) = FW n ys v w + (if ascB k v then 0 else df ys w k * FW n ys (sw k v) w) := by
  have hT := Pos7.top n ys n
  have h5 := hv.le
  have hl := hw.len
  unfold FW
  rw [pickL_sw (by omega) (by omega)]
  have hx7 := pickL_length w ys
  cases ha : ascB k v with
  | true =>
    have a := way_all hT hv hk ha hx7
    have b := way_all hT hv hk ha (x := sw k (pickL w ys)) (by rw [sw_length, hx7])
    rw [a.sym (by omega) b]; simp
  | false =>
    have hd := hv.desc hk ha
    have a := way_all hT (hv.sw hk) hk hd.2 hx7
    unfold WayAt at a
    rw [sw_sw (by have := hv.len; omega), pickL_at (by omega) (by omega), pickL_at (by omega) (by omega)] at a
    unfold df
    rw [if_neg (by decide)]
    obtain ⟨A, hA⟩ : ∃ A, A = ys.getD (w.getD k 0).toNat 0 := ⟨_, rfl⟩
    obtain ⟨B, hB⟩ : ∃ B, B = ys.getD (w.getD (k + 1) 0).toNat 0 := ⟨_, rfl⟩
    rw [← hA, ← hB] at a ⊢
    rw [show B - A = -(A - B) by omega, Int.neg_mul, a]
    omega
theorem FW_way {n : Nat} {ys v w : List Int} (hv : P5 n v) (hw : P5 n w) {k : Nat} (hk : k + 1 < n) (ha : ascB k v = true) :
    df ys w k * FW n ys v w = FW n ys (sw k v) (sw k w) - FW n ys (sw k v) w := by
  have hvs := hv.sw hk
  have := FW_rec (ys := ys) hvs hw hk
  rw [(hv.asc hk ha).2, sw_sw (by have := hv.len; omega)] at this
  simp at this
  omega

/-! ### products -/
def prodP (ys : List Int) : List (Int × Int) → Int
  | [] => 1
  | p :: l => (ys.getD p.1.toNat 0 - ys.getD p.2.toNat 0) * prodP ys l
theorem prodP_append (ys : List Int) (a b : List (Int × Int)) : prodP ys (a ++ b) = prodP ys a * prodP ys b := by
  induction a with
  | nil => simp [prodP]
  | cons p l ih => rw [List.cons_append, prodP, prodP, ih, Int.mul_assoc]
theorem prodP_perm (ys : List Int) {a b : List (Int × Int)} (h : a.Perm b) : prodP ys a = prodP ys b := by
  induction h with
  | nil => rfl
  | cons x _ ih => rw [prodP, prodP, ih]
  | swap x y l => simp only [prodP]; rw [Int.mul_left_comm]
  | trans _ _ a b => exact a.trans b
theorem prodP_zero (ys : List Int) {l : List (Int × Int)} (h : ∃ p ∈ l, p.1 = p.2) : prodP ys l = 0 := by
  obtain ⟨p, hp, e⟩ := h
  induction l with
  | nil => cases hp
  | cons q l ih =>
    rw [prodP]
    rcases List.mem_cons.1 hp with rfl | hp
    · rw [e, Int.sub_self, Int.zero_mul]
    · rw [ih hp, Int.mul_zero]
theorem prodP_mg {N : Int} {ys ys' : List Int} (h : ∀ i, Mg N (ys.getD i 0) (ys'.getD i 0)) : ∀ l, Mg N (prodP ys l) (prodP ys' l)
  | [] => Mg.refl _ _
  | p :: l => ((h _).sub (h _)).mul (prodP_mg h l)
theorem mono_rs {x e : List Int} {i : Nat} (hi : i < 7) (he : e.length = 7) (hp : ∀ a ∈ e, (0 : Int) ≤ a) (hx : x.length = 7) : mono x (rsE i e) = x.getD i 0 * mono x e := by
  obtain ⟨a0, a1, a2, a3, a4, a5, a6, rfl⟩ := list7 he
  obtain ⟨x0, x1, x2, x3, x4, x5, x6, rfl⟩ := list7 hx
  have h0 := hp a0 (by simp)
  have h1 := hp a1 (by simp)
  have h2 := hp a2 (by simp)
  have h3 := hp a3 (by simp)
  have h4 := hp a4 (by simp)
  have h5 := hp a5 (by simp)
  have h6 := hp a6 (by simp)
  have t : ∀ a : Int, 0 ≤ a → (a + 1).toNat = a.toNat + 1 := fun a h => by omega
  have : i = 0 ∨ i = 1 ∨ i = 2 ∨ i = 3 ∨ i = 4 ∨ i = 5 ∨ i = 6 := by omega
  rcases this with rfl | rfl | rfl | rfl | rfl | rfl | rfl <;> (simp [mono, monoK, rsE, t _ h0, t _ h1, t _ h2, t _ h3, t _ h4, t _ h5, t _ h6, Int.pow_succ]; ac_rfl)
theorem rs_val {x : List Int} {i : Nat} (hi : i < 7) (hx : x.length = 7) : ∀ {P : Pl}, Pos7 P → Ev (rsP i P) (mono x) = x.getD i 0 * Ev P (mono x)
  | [], _ => by simp [rsP, Ev]
  | p :: l, h => by
    have ih := rs_val hi hx (P := l) fun q hq => h q (List.mem_cons_of_mem _ hq)
    have hp := h p List.mem_cons_self
    show p.2 * mono x (rsE i p.1) + Ev (rsP i l) (mono x) = _ * (p.2 * mono x p.1 + Ev l (mono x))
    rw [ih, mono_rs hi hp.1 hp.2 hx, Int.mul_add, Int.mul_left_comm]
/-- the factors of the longest permutation's polynomial at w -/
def tpJ (w : List Int) (i : Nat) : Nat → List (Int × Int)
  | 0 => []
  | m + 1 => (w.getD i 0, (m : Int)) :: tpJ w i m
def tpI (n : Nat) (w : List Int) : Nat → List (Int × Int)
  | 0 => []
  | i + 1 => tpJ w i (n - 1 - i) ++ tpI n w i
theorem top_val {n : Nat} {w ys : List Int} (hl : w.length = n) (h5 : n ≤ 5) : ∀ i, i ≤ n → Ev (topI n ys i) (mono (pickL w ys)) = prodP ys (tpI n w i)
  | 0, _ => by simp [topI, tpI, Ev, prodP, mono, monoK]
  | i + 1, hi => by
    rw [topI, tpI, prodP_append]
    have hx := pickL_length w ys
    have : ∀ m, Ev (topJ i ys m (topI n ys i)) (mono (pickL w ys)) = prodP ys (tpJ w i m) * prodP ys (tpI n w i) ∧ Pos7 (topJ i ys m (topI n ys i)) := fun m => by
      induction m with
      | zero => exact ⟨by rw [topJ, tpJ, prodP, Int.one_mul]; exact top_val hl h5 i (by omega), Pos7.top n ys i⟩
      | succ m ih =>
        refine ⟨?_, (ih.2.rs i).append (ih.2.scl _)⟩
        rw [topJ, tpJ, prodP, Ev_append, Ev_scl, Ev_mul, rs_val (by omega) hx ih.2, ih.1, pickL_at (by omega) (by omega)]
        simp only [Int.toNat_natCast]
        obtain ⟨A, hA⟩ : ∃ A, A = prodP ys (tpJ w i m) := ⟨_, rfl⟩
        obtain ⟨B, hB⟩ : ∃ A, A = prodP ys (tpI n w i) := ⟨_, rfl⟩
        rw [← hA, ← hB]
        grind
    exact (this _).1
/-- the inversions, as pairs of numbers -/
def invs (v : List Int) : List (Int × Int) := (List.range v.length).flatMap fun j => ((List.range j).filter fun i => decide (v.getD j 0 < v.getD i 0)).map fun i => (v.getD i 0, v.getD j 0)
def vanB (w : List Int) : Bool := if upN w = 0 then (tpI w.length w w.length).isPerm (invs w) && (fasc w).isNone && decide (w = (idL w.length).reverse) else (tpI w.length w w.length).any (fun p => decide (p.1 = p.2)) && (fasc w).isSome
def invB (v : List Int) : Bool := (List.range (v.length - 1)).all fun k => !ascB k v || (invs (sw k v)).isPerm ((v.getD (k + 1) 0, v.getD k 0) :: invs v)
set_option maxRecDepth 100000 in
theorem van_all : all5 vanB = true := by decide +kernel
set_option maxRecDepth 100000 in
theorem inv_all : all5 invB = true := by decide +kernel
theorem van_0 {n : Nat} {w : List Int} (hw : P5 n w) (h0 : upN w = 0) : (tpI n w n).Perm (invs w) ∧ fasc w = none ∧ w = (idL n).reverse := by
  have := all5_at van_all hw.ok (by have := hw.len; have := hw.le; omega)
  unfold vanB at this
  rw [if_pos h0, hw.len] at this
  simpa [List.isPerm_iff, and_assoc] using this
theorem van_1 {n : Nat} {w : List Int} (hw : P5 n w) (h0 : upN w ≠ 0) : (∃ p ∈ tpI n w n, p.1 = p.2) ∧ ∃ k, fasc w = some k := by
  have := all5_at van_all hw.ok (by have := hw.len; have := hw.le; omega)
  unfold vanB at this
  rw [if_neg h0, hw.len] at this
  simp only [Bool.and_eq_true, List.any_eq_true, decide_eq_true_eq, Option.isSome_iff_exists] at this
  exact this
theorem inv_sw {n : Nat} {v : List Int} (hv : P5 n v) {k : Nat} (hk : k + 1 < n) (ha : ascB k v = true) : (invs (sw k v)).Perm ((v.getD (k + 1) 0, v.getD k 0) :: invs v) := by
  have := all5_at inv_all hv.ok (by have := hv.len; have := hv.le; omega)
  simp only [invB, List.all_eq_true, List.mem_range] at this
  have := this k (by have := hv.len; omega)
  rw [ha] at this
  simpa [List.isPerm_iff] using this
def DstY (n : Nat) (ys : List Int) : Prop := ∀ i j, i < n → j < n → i ≠ j → ys.getD i 0 ≠ ys.getD j 0
theorem df_ne {n : Nat} {ys w : List Int} (hy : DstY n ys) (hw : P5 n w) {k : Nat} (hk : k + 1 < n) : df ys w k ≠ 0 := by
  obtain ⟨a, ha, han⟩ := hw.rng (j := k) (by omega)
  obtain ⟨b, hb, hbn⟩ := hw.rng (j := k + 1) hk
  unfold df
  rw [ha, hb, Int.toNat_natCast, Int.toNat_natCast]
  have hne : b ≠ a := fun e => by
    have hp := hw.ok
    simp only [permOk, decide_eq_true_eq] at hp
    have := List.pairwise_iff_getElem.1 hp.2.2.2 k (k + 1) (by have := hw.len; omega) (by have := hw.len; omega) (by omega)
    rw [← getD_lt, ← getD_lt, ha, hb, e] at this
    exact this rfl
  have := hy b a hbn han hne
  omega
theorem sw_inj {n : Nat} {v w : List Int} (hv : P5 n v) (hw : P5 n w) {k : Nat} (hk : k + 1 < n) (h : sw k w = sw k v) : w = v := by
  rw [← sw_sw (x := w) (k := k) (by have := hw.len; omega), h, sw_sw (by have := hv.len; omega)]
theorem up_near {n : Nat} {w : List Int} (hw : P5 n w) {k : Nat} (hk : k + 1 < n) : upN w ≤ upN (sw k w) + 1 := by
  cases ha : ascB k w with
  | true => have := (hw.asc hk ha).1; omega
  | false => have := (hw.desc hk ha).1; omega
theorem van_dst {n : Nat} {ys : List Int} (hy : DstY n ys) : ∀ (m : Nat) (v : List Int), P5 n v → upN v = m → (∀ w, P5 n w → m ≤ upN w → w ≠ v → FW n ys v w = 0) ∧ FW n ys v v = prodP ys (invs v) := by
  intro m
  induction m with
  | zero =>
    intro v hv hm
    obtain ⟨h1, h2, h3⟩ := van_0 hv hm
    have hval : ∀ w, P5 n w → FW n ys v w = prodP ys (tpI n w n) := fun w hw => by
      unfold FW EV
      rw [show lowP 10 v (topI n ys n) = topI n ys n by rw [lowP, h2]]
      exact top_val hw.len hw.le n (Nat.le_refl _)
    refine ⟨fun w hw _ hne => ?_, by rw [hval v hv, prodP_perm ys h1]⟩
    rw [hval w hw]
    refine prodP_zero ys (van_1 hw fun h0 => hne ?_).1
    rw [h3, (van_0 hw h0).2.2]
  | succ m ih =>
    intro v hv hm
    obtain ⟨_, k, hk⟩ := van_1 hv (by omega)
    have hkl := fasc_lt hk
    have hkn : k + 1 < n := by have := hv.len; omega
    have ha : ascB k v = true := decide_eq_true hkl.2.1
    have hu := hv.asc hkn ha
    obtain ⟨z1, z2⟩ := ih (sw k v) (hv.sw hkn) (by omega)
    refine ⟨fun w hw hle hne => ?_, ?_⟩
    · have a := FW_way (ys := ys) hv hw hkn ha
      have b := up_near hw hkn
      rw [z1 w hw (by omega) (fun e => by rw [e] at hle; omega), z1 (sw k w) (hw.sw hkn) (by omega) (fun e => hne (sw_inj hv hw hkn e)), Int.sub_self] at a
      exact cancel (df_ne hy hw hkn) a
    · have a := FW_way (ys := ys) hv hv hkn ha
      rw [z2, z1 v hv (by omega) (fun e => by rw [← e] at hu; omega), prodP_perm ys (inv_sw hv hkn ha), prodP] at a
      have b := df_ne hy hv hkn
      have : df ys v k * (FW n ys v v - prodP ys (invs v)) = 0 := by
        rw [Int.mul_sub, a]
        simp only [df]
        omega
      have := cancel b this
      omega
theorem mvd_dst {N : Int} {n : Nat} {ys : List Int} (hN : 2 * ((ys.map Int.natAbs).sum : Int) < N) : DstY n (mvd N n ys) := fun i j hi hj hne => by
  rcases Nat.lt_or_gt_of_ne hne with h | h
  · exact mvd_ne hN h hj
  · exact fun e => mvd_ne hN h hi e.symm
theorem FW_zero {n : Nat} {ys v w : List Int} (hv : P5 n v) (hw : P5 n w) (hy : ys.length = n) (hle : upN v ≤ upN w) (hne : w ≠ v) : FW n ys v w = 0 :=
  Mg.zero (2 * ((ys.map Int.natAbs).sum : Int)) fun N hN _ => by
    have a := FW_mg (n := n) (v := v) (w := w) (mvd_mg (N := N) hy)
    rw [(van_dst (mvd_dst hN) _ v hv rfl).1 w hw hle hne] at a
    exact a
theorem FW_self {n : Nat} {ys v : List Int} (hv : P5 n v) (hy : ys.length = n) : FW n ys v v = prodP ys (invs v) := by
  have : FW n ys v v - prodP ys (invs v) = 0 :=
    Mg.zero (2 * ((ys.map Int.natAbs).sum : Int)) fun N hN _ => by
      have a := (FW_mg (n := n) (v := v) (w := v) (mvd_mg (N := N) hy)).sub (prodP_mg (mvd_mg (N := N) hy) (invs v))
      rw [(van_dst (mvd_dst hN) _ v hv rfl).2, Int.sub_self] at a
      exact a
  omega

/-! ### the reference's sums -/
theorem sumS_snoc {n : Nat} {ys : List Int} {k : Nat} (hk : k + 1 < n) : ∀ (r : List Nat) (v u h : List Int), P5 n v → P5 n h → u.length = n → (∀ j ∈ r, j + 1 < n) →
    sumS v ys (r ++ [k]) u h = sumS v ys r u h + (if ascB k v then 0 else df ys (play r u) k * sumS (sw k v) ys r u h)
  | [], v, u, h, hv, hh, hu, _ => by
    simp only [List.nil_append, sumS, play, List.foldl_nil, df]
    congr 1
    cases ha : ascB k h with
    | true =>
      have a := (hh.asc hk ha).2
      by_cases e : sw k h = v
      · have e2 : h = sw k v := by rw [← e, sw_sw (by have := hh.len; omega)]
        rw [← e, a, sw_sw (by have := hh.len; omega)]
        simp
      · have e2 : ¬ h = sw k v := fun e2 => e (by rw [e2, sw_sw (by have := hv.len; omega)])
        simp [e, e2]
    | false =>
      cases hb : ascB k v with
      | true => simp
      | false =>
        have e2 : ¬ h = sw k v := fun e2 => by
          have := (hv.desc hk hb).2
          rw [← e2, ha] at this
          cases this
        simp [e2]
  | j :: r, v, u, h, hv, hh, hu, hr => by
    have hj : j + 1 < n := hr j List.mem_cons_self
    have hr' : ∀ j ∈ r, j + 1 < n := fun i hi => hr i (List.mem_cons_of_mem _ hi)
    have i1 := sumS_snoc (ys := ys) hk r v (sw j u) h hv hh (by rw [sw_length]; exact hu) hr'
    have i2 := sumS_snoc (ys := ys) hk r v (sw j u) (sw j h) hv (hh.sw hj) (by rw [sw_length]; exact hu) hr'
    rw [List.cons_append, sumS, i1, i2, sumS, sumS]
    show _ = _ + (if ascB k v then 0 else df ys (play r (sw j u)) k * _)
    cases ascB k v <;> cases ascB j h <;> simp <;> grind
theorem play_p5 {n : Nat} : ∀ (r : List Nat) (u : List Int), P5 n u → (∀ j ∈ r, j + 1 < n) → P5 n (play r u)
  | [], u, h, _ => h
  | j :: r, u, h, hr => play_p5 r (sw j u) (h.sw (hr j List.mem_cons_self)) fun i hi => hr i (List.mem_cons_of_mem _ hi)
theorem play_snoc (r : List Nat) (k : Nat) (u : List Int) : play (r ++ [k]) u = sw k (play r u) := by simp [play]
theorem id_most {n : Nat} {v : List Int} (hv : P5 n v) (h1 : 1 ≤ n) : upN v ≤ upN (idL n) ∧ lnN (idL n) = 0 ∧ invs (idL n) = [] := by
  have h5 := hv.le
  have a := (wrd_at hv).2.2.2
  have b := (wrd_at (P5.id h1 h5)).2.2.2
  have c : ∀ n : Fin 6, lnN (idL n) = 0 ∧ invs (idL n) = [] := by decide
  have d := c ⟨n, by omega⟩
  simp only at d
  refine ⟨by omega, d⟩
theorem sum_val {n : Nat} {ys : List Int} (hy : ys.length = n) (h1 : 1 ≤ n) (h5 : n ≤ 5) : ∀ (m : Nat) (r : List Nat) (v : List Int), r.length = m → P5 n v → (∀ j ∈ r, j + 1 < n) → FW n ys v (play r (idL n)) = sumS v ys r (idL n) (idL n) := by
  intro m
  induction m with
  | zero =>
    intro r v hr hv _
    obtain rfl := List.eq_nil_of_length_eq_zero hr
    have hi := P5.id h1 h5
    have a := id_most hv h1
    show FW n ys v (idL n) = _
    rw [sumS]
    by_cases e : idL n = v
    · rw [if_pos e, ← e, FW_self hi hy, a.2.2]; rfl
    · rw [if_neg e]
      exact FW_zero hv hi hy a.1 e
  | succ m ih =>
    intro r v hr hv hrk
    have hne : r ≠ [] := fun e => by rw [e] at hr; cases hr
    obtain ⟨r', k, rfl⟩ : ∃ r' k, r = r' ++ [k] := ⟨r.dropLast, r.getLast hne, (List.dropLast_concat_getLast hne).symm⟩
    have hk : k + 1 < n := hrk k (by simp)
    have hrk' : ∀ j ∈ r', j + 1 < n := fun j hj => hrk j (by simp [hj])
    have hl : r'.length = m := by simpa using hr
    have hi := P5.id h1 h5
    rw [play_snoc, FW_rec hv (play_p5 r' _ hi hrk') hk, sumS_snoc hk r' v _ _ hv hi hi.len hrk', ih r' v hl hv hrk', ih r' (sw k v) hl (hv.sw hk) hrk']
/-- the two ways to reckon a value agree -/
theorem loc_law {n : Nat} {v w ys : List Int} (hv : P5 n v) (hw : P5 n w) (hy : ys.length = n) (h1 : 1 ≤ n) : Ev (dblP v ys) (mono (pickL w ys)) = sumS v ys (fstL w) (idL n) (idL n) := by
  have h := wrd_at hw
  have := sum_val hy h1 hw.le _ (fstL w) v rfl hv h.2.1
  rw [h.1] at this
  rw [← this]
  unfold FW EV dblP
  rw [hv.len]

end Go.Proofs.Ytajmoclnmphmgaa

namespace Go.Proofs.Ytajmoclnmphmgaa
set_option linter.all false
open Go.RowKit

theorem cell_kept {w w' : World} {a : Addr} {v : Value} (hb : Below w.heap.size w w') (h : w.cell? a = some v) : w'.cell? a = some v := by
  rw [hb.cell (World.block_lt_of_cell? _ _ h)]; exact h
def rkL (xs : List Int) (c : Int) : Nat → Nat
  | 0 => 0
  | r + 1 => rkL xs c r + if xs.getD r 0 < c then 1 else 0
theorem rkL_le (xs : List Int) (c : Int) : ∀ r, rkL xs c r ≤ r
  | 0 => Nat.le_refl _
  | r + 1 => by have := rkL_le xs c r; unfold rkL; split <;> omega

end Go.Proofs.Ytajmoclnmphmgaa

namespace Go.Proofs.Ytajmoclnmphmgaa
set_option linter.all false
open Go.RowKit

/-- one permutation below another one, by the ranks -/
def blwB (v w : List Int) : Bool := (List.range (v.length + 1)).all fun r => (List.range (v.length + 1)).all fun c => decide (rkL w (c : Int) r ≤ rkL v (c : Int) r)
/-- a check that all pairs of permutations of at most four pass -/
def pair4 (B : List Int → List Int → Bool) : Bool := (List.range 5).all fun n => (permsL n).all fun v => (permsL n).all fun w => !decide (1 ≤ n) || B v w
theorem pair4_at {B : List Int → List Int → Bool} (h : pair4 B = true) {v w : List Int} {n : Nat} (hv : P5 n v) (hw : P5 n w) (h4 : n ≤ 4) : B v w = true := by
  unfold pair4 at h
  rw [List.all_eq_true] at h
  have a := h n (List.mem_range.2 (by omega))
  rw [List.all_eq_true] at a
  have mv := perm_mem hv.ok (by rw [hv.len]; omega)
  have mw := perm_mem hw.ok (by rw [hw.len]; omega)
  rw [hv.len] at mv
  rw [hw.len] at mw
  have b := a v mv
  rw [List.all_eq_true] at b
  have c := b w mw
  have : 1 ≤ n := by have := hv.ok; simp only [permOk, decide_eq_true_eq] at this; have := hv.len; omega
  simpa [this] using c
def bruB (v w : List Int) : Bool := (List.range (v.length - 1)).all fun k => !ascB k w || decide (blwB v (sw k w) = (blwB v w || (!ascB k v && blwB (sw k v) w)))
def blidB (v : List Int) : Bool := decide (blwB v (idL v.length) = decide (idL v.length = v)) && (decide (lnN v = 0) || (List.range (v.length - 1)).any fun k => !ascB k v)
set_option maxRecDepth 100000 in
theorem bru_all : pair4 bruB = true := by decide +kernel
set_option maxRecDepth 100000 in
theorem blid_all : all5 blidB = true := by decide +kernel
theorem bru_at {n : Nat} {v w : List Int} (hv : P5 n v) (hw : P5 n w) (h4 : n ≤ 4) {k : Nat} (hk : k + 1 < n) (ha : ascB k w = true) : blwB v (sw k w) = (blwB v w || (!ascB k v && blwB (sw k v) w)) := by
  have := pair4_at bru_all hv hw h4
  simp only [bruB, List.all_eq_true, List.mem_range] at this
  have := this k (by rw [hv.len]; omega)
  rw [ha] at this
  simpa using this
theorem blid_at {n : Nat} {v : List Int} (hv : P5 n v) : blwB v (idL n) = decide (idL n = v) ∧ (lnN v = 0 ∨ ∃ k, k + 1 < n ∧ ascB k v = false) := by
  have := all5_at blid_all hv.ok (by have := hv.len; have := hv.le; omega)
  simp only [blidB, Bool.and_eq_true, decide_eq_true_eq, Bool.or_eq_true, List.any_eq_true, List.mem_range] at this
  rw [hv.len] at this
  refine ⟨this.1, this.2.imp_right fun ⟨k, hk, h⟩ => ⟨k, by omega, by simpa using h⟩⟩
theorem id_of_len {n : Nat} {w : List Int} (hw : P5 n w) (h0 : lnN w = 0) : w = idL n := by
  have := (wrd_at hw).1
  unfold fstL at this
  rw [h0] at this
  exact this.symm
theorem len_desc {n : Nat} {w : List Int} (hw : P5 n w) {k : Nat} (hk : k + 1 < n) (ha : ascB k w = false) : lnN (sw k w) + 1 = lnN w := by
  have a := (wrd_at hw).2.2.2
  have b := (wrd_at (hw.sw hk)).2.2.2
  have c := (hw.desc hk ha).1
  omega
end Go.Proofs.Ytajmoclnmphmgaa
