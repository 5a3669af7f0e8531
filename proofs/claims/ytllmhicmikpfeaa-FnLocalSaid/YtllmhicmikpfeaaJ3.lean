/-
  Many rows put behind others.
  For regions that draw their order: append as a step; what is kept of two boxes and the result's cell.
  Slices of structs, any number of one-cell fields an element: over any program.
  Slices of the reference's terms: a key and a number an element.
  Maps keyed by seven numbers: what a key is.
  What a map keyed by seven numbers adds up to, against a list of keys and numbers. Plain.
  A map keyed by seven numbers reads as a list of keys and numbers, up to multiples of 2^64. Plain.
-/
import Derived.Test.YtllmhicmikpfeaaJ2
import Derived.Lib.OwnKind
import Derived.OwnWalk
import Derived.Test.YtllmhicmikpfeaaChecked
import Derived.WideKeyArr
import Derived.WideKeyEntry
import Derived.Maps.RangeWalk
import Derived.Maps.OwnSet
import Derived.Maps.OwnOps
namespace Go.Proofs.Ytllmhicmikpfeaa
set_option linter.all false
open Go.RowKit

/-- rows of their own (lo .. mid-1, then mid .. hi-1) stand one behind the other in a slice that an append made -/
theorem OwnII.join {Ts Ti : TypeId} {w w' : World} {lo mid hi : Nat} {v v' : Value} {rows rows2 : List (List Int)} {f g : Nat → Value}
    (g1 : OwnF w lo mid Ts v rows.length f) (g2 : ∀ i, i < rows.length → OwnI Ti w lo mid (f i) (rows.getD i []))
    (g3 : ∀ i j, i < j → j < rows.length → ∀ k, (f i).ownBlock = some k → (f j).ownBlock ≠ some k)
    (h2 : ∀ i, i < rows2.length → OwnI Ti w mid hi (g i) (rows2.getD i []))
    (h3 : ∀ i j, i < j → j < rows2.length → ∀ k, (g i).ownBlock = some k → (g j).ownBlock ≠ some k)
    (hm : lo ≤ mid) (hmh : mid ≤ hi) (hT : Ts ≠ Ti) (hg : w.grownBy w' v.ownBlock) (hsz : hi ≤ w'.heap.size)
    (hv : OwnF w' lo w'.heap.size Ts v' (rows.length + rows2.length) (fun j => if j < rows.length then f j else g (j - rows.length))) :
    OwnII Ts Ti w' lo w'.heap.size v' (rows ++ rows2) := by
  have hrow : ∀ (y : Value) (ys : List Int) (lo1 hi1 : Nat), OwnI Ti w lo1 hi1 y ys → OwnI Ti w' lo1 hi1 y ys := fun y ys lo1 hi1 hy =>
    ⟨ownsRow_of_block hy.1 fun k hk => hg.block k (Own.block hy hk).2.2 fun e => own_types g1 hy hT e.symm hk, hy.2⟩
  refine ⟨_, by rw [List.length_append]; exact hv, fun i hi => ?_, fun i j hij hj k hk => ?_⟩
  · rw [List.length_append] at hi
    by_cases hlt : i < rows.length
    · have e : (rows ++ rows2).getD i [] = rows.getD i [] := by simp [List.getD_eq_getElem?_getD, List.getElem?_append_left hlt]
      simp only [hlt, if_true]
      rw [e]
      exact (hrow _ _ _ _ (g2 i hlt)).mono (Nat.le_refl _) (by omega)
    · have e : (rows ++ rows2).getD i [] = rows2.getD (i - rows.length) [] := by
        simp [List.getD_eq_getElem?_getD, List.getElem?_append_right (Nat.le_of_not_lt hlt)]
      simp only [hlt, if_false]
      rw [e]
      exact (hrow _ _ _ _ (h2 _ (by omega))).mono hm hsz
  · rw [List.length_append] at hj
    by_cases hlt : j < rows.length
    · simp only [hlt, if_true]
      simp only [show i < rows.length by omega, if_true] at hk
      exact g3 i j hij hlt k hk
    · simp only [hlt, if_false]
      by_cases hil : i < rows.length
      · simp only [hil, if_true] at hk
        intro e
        have h5 := (Own.block (g2 i hil) hk).2.1
        have h6 := (Own.block (h2 _ (by omega)) e).1
        omega
      · simp only [hil, if_false] at hk
        exact h3 _ _ (by omega) (by omega) k hk

theorem OwnI.snoc1 {T : TypeId} {w : World} {lo hi : Nat} {v : Value} {out : List Int} {x : Int} (h : OwnF w lo hi T v (out.length + 1) (fun j => if j < out.length then iv out j else .int .i64 x)) : OwnI T w lo hi v (out ++ [x]) := by
  refine OwnF.ints ?_
  rw [List.length_append]
  exact h.congr fun j hj => by
    by_cases h : j < out.length
    · simp [h, iv, List.getD_eq_getElem?_getD, List.getElem?_append_left h]
    · have : j = out.length := by omega
      subst this
      simp [iv, List.getD_eq_getElem?_getD]

theorem flatMap_len {α : Type} (g : Nat → List α) (b : Nat) (h : ∀ x, (g x).length ≤ b) : ∀ n, ((List.range n).flatMap g).length ≤ n * b
  | 0 => by simp
  | n + 1 => by
    rw [List.range_succ, List.flatMap_append, List.length_append, Nat.succ_mul]
    have := flatMap_len g b h n
    have h2 := h n
    simp only [List.flatMap_cons, List.flatMap_nil, List.append_nil]
    omega

theorem flatMap_snoc {α : Type} (g : Nat → List α) (n : Nat) : (List.range (n + 1)).flatMap g = (List.range n).flatMap g ++ g n := by
  rw [List.range_succ, List.flatMap_append]
  simp

end Go.Proofs.Ytllmhicmikpfeaa

namespace Go.Proofs.Ytllmhicmikpfeaa
set_option linter.all false
open Go.RowKit

/-- append, as a step of a region that draws -/
theorem step_append_F {P : Program} {w : World} {ops : Array Oper} {o : Oper} {a : Act} {K : Act → World → Prop} {Q : Exit → Act → World → Prop} {E : Prop} (hgd : o.guard = none) (s x : Operand) (t : TypeId)
    (ho : o.op = .call { callee := .builtin .append, args := #[s, x], argTypes := #[t, t] })
    (e : TypeId) (z : Value) (bytes : Nat) (ht : P.underlying t = some (.slice e)) (hinfo : (P.info? e).map (fun i => (i.zero, i.size, i.bytes)) = some (some z, 1, bytes)) (hzs : z.cells.size = 1)
    (lo hi' : Nat) (v : Value) (n : Nat) (f : Nat → Value) (hs : a.eval s = v) (hown : OwnF w lo hi' e v n f) (hlo : lo ≤ w.heap.size) (hhi : hi' ≤ w.heap.size)
    (u : Value) (m : Nat) (g : Nat → Value) (hxu : a.eval x = u) (hx : Rd w u m g) (h1 : ∀ j, j < m → (g j).oneCell' = true) (h63 : n + m ≤ maxLen) (hbytes : (n + m) * bytes ≤ 140737488355328)
    (h : ∀ v' w', OwnF w' lo w'.heap.size e v' (n + m) (fun j => if j < n then f j else g (j - n)) → w.grownBy w' v.ownBlock → K (a.put o.dst v') w') :
    if Region.wanted o (yielded ops a.tmps) = true then Oper.wp P o a w K Q else E := by
  have hw : Region.wanted o (yielded ops a.tmps) = true := by simp [Region.wanted, hgd]
  rw [if_pos hw]
  obtain ⟨i, hi, hz, hsz, hby⟩ := info_parts hinfo
  obtain ⟨v', w', hr, h2, h3⟩ := run_append_F (P := P) w t o.type e i z bytes ht hi hz hsz hby hzs lo hi' v n f hown hlo hhi u m g hx h1 h63 hbytes
  unfold Oper.wp
  simp [execOp, ho, resolve, invoke, builtin, hs, hxu, hr, Result.andThen]
  exact h v' w' h2 h3

theorem grownBy_below2 {w w' : World} {v : Value} {lo hi : Nat} {T : TypeId} {n : Nat} {f : Nat → Value} (h : w.grownBy w' v.ownBlock) (ho : OwnF w lo hi T v n f) {B : Nat} (h1 : B ≤ lo) (h2 : B ≤ w.heap.size) : Below B w w' :=
  grownBy_below h ho.blocks h1 h2

/-- eight cells that are read, and a block for the result -/
theorem keep9 {w W W' : World} {a0 a1 a2 a3 a4 a5 a6 a7 : Addr} {v0 v1 v2 v3 v4 v5 v6 v7 : Value} {b : Nat} {T : TypeId} (hb : Below W.heap.size W W')
    (h : ((W.cell? a0 = some v0 ∧ W.cell? a1 = some v1 ∧ W.cell? a2 = some v2 ∧ W.cell? a3 = some v3 ∧ W.cell? a4 = some v4 ∧ W.cell? a5 = some v5 ∧ W.cell? a6 = some v6 ∧ W.cell? a7 = some v7) ∧ ∃ y0 y1 y2 y3, W.heap[b]? = some (.cells #[y0, y1, y2, y3] T (0, 0))) ∧ Below w.heap.size w W) :
    ((W'.cell? a0 = some v0 ∧ W'.cell? a1 = some v1 ∧ W'.cell? a2 = some v2 ∧ W'.cell? a3 = some v3 ∧ W'.cell? a4 = some v4 ∧ W'.cell? a5 = some v5 ∧ W'.cell? a6 = some v6 ∧ W'.cell? a7 = some v7) ∧ ∃ y0 y1 y2 y3, W'.heap[b]? = some (.cells #[y0, y1, y2, y3] T (0, 0))) ∧ Below w.heap.size w W' := by
  obtain ⟨⟨⟨h0, h1, h2, h3, h4, h5, h6, h7⟩, y0, y1, y2, y3, hy⟩, hB⟩ := h
  exact ⟨⟨⟨cell_below hb h0, cell_below hb h1, cell_below hb h2, cell_below hb h3, cell_below hb h4, cell_below hb h5, cell_below hb h6, cell_below hb h7⟩, y0, y1, y2, y3, blk_later hy hb⟩, hB.trans (hb.mono hB.size)⟩
theorem keep9_gen {w W W' : World} {b1 b2 o0 o1 o2 o3 o4 o5 o6 o7 : Nat} {v0 v1 v2 v3 v4 v5 v6 v7 z0 z1 z2 z3 : Value} {b : Nat} {T : TypeId} (hh : W'.heap[b1]? = W.heap[b1]?) (hh2 : W'.heap[b2]? = W.heap[b2]?) (hy : W'.heap[b]? = some (.cells #[z0, z1, z2, z3] T (0, 0))) (hB : Below w.heap.size w W')
    (h : W.cell? ⟨b1, o0, none⟩ = some v0 ∧ W.cell? ⟨b1, o1, none⟩ = some v1 ∧ W.cell? ⟨b1, o2, none⟩ = some v2 ∧ W.cell? ⟨b1, o3, none⟩ = some v3 ∧ W.cell? ⟨b2, o4, none⟩ = some v4 ∧ W.cell? ⟨b2, o5, none⟩ = some v5 ∧ W.cell? ⟨b2, o6, none⟩ = some v6 ∧ W.cell? ⟨b2, o7, none⟩ = some v7) :
    ((W'.cell? ⟨b1, o0, none⟩ = some v0 ∧ W'.cell? ⟨b1, o1, none⟩ = some v1 ∧ W'.cell? ⟨b1, o2, none⟩ = some v2 ∧ W'.cell? ⟨b1, o3, none⟩ = some v3 ∧ W'.cell? ⟨b2, o4, none⟩ = some v4 ∧ W'.cell? ⟨b2, o5, none⟩ = some v5 ∧ W'.cell? ⟨b2, o6, none⟩ = some v6 ∧ W'.cell? ⟨b2, o7, none⟩ = some v7) ∧ ∃ y0 y1 y2 y3, W'.heap[b]? = some (.cells #[y0, y1, y2, y3] T (0, 0))) ∧ Below w.heap.size w W' := by
  obtain ⟨h0, h1, h2, h3, h4, h5, h6, h7⟩ := h
  refine ⟨⟨⟨?_, ?_, ?_, ?_, ?_, ?_, ?_, ?_⟩, z0, z1, z2, z3, hy⟩, hB⟩
  · rw [World.cell?_of_block (w := W) hh]; exact h0
  · rw [World.cell?_of_block (w := W) hh]; exact h1
  · rw [World.cell?_of_block (w := W) hh]; exact h2
  · rw [World.cell?_of_block (w := W) hh]; exact h3
  · rw [World.cell?_of_block (w := W) hh2]; exact h4
  · rw [World.cell?_of_block (w := W) hh2]; exact h5
  · rw [World.cell?_of_block (w := W) hh2]; exact h6
  · rw [World.cell?_of_block (w := W) hh2]; exact h7
theorem heap_set4 {W : World} {b1 b : Nat} (hne : b1 ≠ b) (x0 x1 x2 x3 : Value) : ((((W.setCell ⟨b, 0, none⟩ x0).setCell ⟨b, 1, none⟩ x1).setCell ⟨b, 2, none⟩ x2).setCell ⟨b, 3, none⟩ x3).heap[b1]? = W.heap[b1]? := by
  rw [Below.heap_setCell _ _ _ _ (show b1 ≠ (⟨b, 3, none⟩ : Addr).block from hne), Below.heap_setCell _ _ _ _ (show b1 ≠ (⟨b, 2, none⟩ : Addr).block from hne), Below.heap_setCell _ _ _ _ (show b1 ≠ (⟨b, 1, none⟩ : Addr).block from hne), Below.heap_setCell _ _ _ _ (show b1 ≠ (⟨b, 0, none⟩ : Addr).block from hne)]
theorem keep9_set {w W : World} {b1 b2 o0 o1 o2 o3 o4 o5 o6 o7 : Nat} {v0 v1 v2 v3 v4 v5 v6 v7 : Value} {b : Nat} {T : TypeId} (hne : b1 ≠ b) (hne2 : b2 ≠ b) (hbw : w.heap.size ≤ b) (x0 x1 x2 x3 : Value)
    (h : ((W.cell? ⟨b1, o0, none⟩ = some v0 ∧ W.cell? ⟨b1, o1, none⟩ = some v1 ∧ W.cell? ⟨b1, o2, none⟩ = some v2 ∧ W.cell? ⟨b1, o3, none⟩ = some v3 ∧ W.cell? ⟨b2, o4, none⟩ = some v4 ∧ W.cell? ⟨b2, o5, none⟩ = some v5 ∧ W.cell? ⟨b2, o6, none⟩ = some v6 ∧ W.cell? ⟨b2, o7, none⟩ = some v7) ∧ ∃ y0 y1 y2 y3, W.heap[b]? = some (.cells #[y0, y1, y2, y3] T (0, 0))) ∧ Below w.heap.size w W) :
    ((((((W.setCell ⟨b, 0, none⟩ x0).setCell ⟨b, 1, none⟩ x1).setCell ⟨b, 2, none⟩ x2).setCell ⟨b, 3, none⟩ x3).cell? ⟨b1, o0, none⟩ = some v0 ∧ ((((W.setCell ⟨b, 0, none⟩ x0).setCell ⟨b, 1, none⟩ x1).setCell ⟨b, 2, none⟩ x2).setCell ⟨b, 3, none⟩ x3).cell? ⟨b1, o1, none⟩ = some v1 ∧
      ((((W.setCell ⟨b, 0, none⟩ x0).setCell ⟨b, 1, none⟩ x1).setCell ⟨b, 2, none⟩ x2).setCell ⟨b, 3, none⟩ x3).cell? ⟨b1, o2, none⟩ = some v2 ∧ ((((W.setCell ⟨b, 0, none⟩ x0).setCell ⟨b, 1, none⟩ x1).setCell ⟨b, 2, none⟩ x2).setCell ⟨b, 3, none⟩ x3).cell? ⟨b1, o3, none⟩ = some v3 ∧
      ((((W.setCell ⟨b, 0, none⟩ x0).setCell ⟨b, 1, none⟩ x1).setCell ⟨b, 2, none⟩ x2).setCell ⟨b, 3, none⟩ x3).cell? ⟨b2, o4, none⟩ = some v4 ∧ ((((W.setCell ⟨b, 0, none⟩ x0).setCell ⟨b, 1, none⟩ x1).setCell ⟨b, 2, none⟩ x2).setCell ⟨b, 3, none⟩ x3).cell? ⟨b2, o5, none⟩ = some v5 ∧
      ((((W.setCell ⟨b, 0, none⟩ x0).setCell ⟨b, 1, none⟩ x1).setCell ⟨b, 2, none⟩ x2).setCell ⟨b, 3, none⟩ x3).cell? ⟨b2, o6, none⟩ = some v6 ∧ ((((W.setCell ⟨b, 0, none⟩ x0).setCell ⟨b, 1, none⟩ x1).setCell ⟨b, 2, none⟩ x2).setCell ⟨b, 3, none⟩ x3).cell? ⟨b2, o7, none⟩ = some v7) ∧
      ∃ y0 y1 y2 y3, ((((W.setCell ⟨b, 0, none⟩ x0).setCell ⟨b, 1, none⟩ x1).setCell ⟨b, 2, none⟩ x2).setCell ⟨b, 3, none⟩ x3).heap[b]? = some (.cells #[y0, y1, y2, y3] T (0, 0))) ∧
      Below w.heap.size w ((((W.setCell ⟨b, 0, none⟩ x0).setCell ⟨b, 1, none⟩ x1).setCell ⟨b, 2, none⟩ x2).setCell ⟨b, 3, none⟩ x3) := by
  obtain ⟨⟨hc, y0, y1, y2, y3, hy⟩, hB⟩ := h
  have hy4 := set4_all hy x0 x1 x2 x3
  have hB4 := below_set4 hB hbw x0 x1 x2 x3
  exact keep9_gen (heap_set4 hne x0 x1 x2 x3) (heap_set4 hne2 x0 x1 x2 x3) hy4 hB4 hc
theorem s9_blk {w W : World} {c : Prop} {b : Nat} {T : TypeId}
    (h : (c ∧ ∃ y0 y1 y2 y3, W.heap[b]? = some (.cells #[y0, y1, y2, y3] T (0, 0))) ∧ Below w.heap.size w W) :
    ∃ y0 y1 y2 y3, W.heap[b]? = some (.cells #[y0, y1, y2, y3] T (0, 0)) := h.1.2

/-- .. where what changed lies from B on -/
theorem keep9B {w W W' : World} {B b1 b2 o0 o1 o2 o3 o4 o5 o6 o7 : Nat} {v0 v1 v2 v3 v4 v5 v6 v7 : Value} {b : Nat} {T : TypeId} (hb : Below B W W') (hB1 : b1 < B) (hB2 : b2 < B) (hB3 : b < B) (hw : w.heap.size ≤ B)
    (h : ((W.cell? ⟨b1, o0, none⟩ = some v0 ∧ W.cell? ⟨b1, o1, none⟩ = some v1 ∧ W.cell? ⟨b1, o2, none⟩ = some v2 ∧ W.cell? ⟨b1, o3, none⟩ = some v3 ∧ W.cell? ⟨b2, o4, none⟩ = some v4 ∧ W.cell? ⟨b2, o5, none⟩ = some v5 ∧ W.cell? ⟨b2, o6, none⟩ = some v6 ∧ W.cell? ⟨b2, o7, none⟩ = some v7) ∧ ∃ y0 y1 y2 y3, W.heap[b]? = some (.cells #[y0, y1, y2, y3] T (0, 0))) ∧ Below w.heap.size w W) :
    ((W'.cell? ⟨b1, o0, none⟩ = some v0 ∧ W'.cell? ⟨b1, o1, none⟩ = some v1 ∧ W'.cell? ⟨b1, o2, none⟩ = some v2 ∧ W'.cell? ⟨b1, o3, none⟩ = some v3 ∧ W'.cell? ⟨b2, o4, none⟩ = some v4 ∧ W'.cell? ⟨b2, o5, none⟩ = some v5 ∧ W'.cell? ⟨b2, o6, none⟩ = some v6 ∧ W'.cell? ⟨b2, o7, none⟩ = some v7) ∧ ∃ y0 y1 y2 y3, W'.heap[b]? = some (.cells #[y0, y1, y2, y3] T (0, 0))) ∧ Below w.heap.size w W' := by
  obtain ⟨⟨hc, y0, y1, y2, y3, hy⟩, hB⟩ := h
  exact keep9_gen (hb.block _ hB1) (hb.block _ hB2) ((hb.block _ hB3).trans hy) (hB.trans (hb.mono hw)) hc
theorem held_lt {w W : World} {c : Prop} {b : Nat} {T : TypeId} (h : (c ∧ ∃ y0 y1 y2 y3, W.heap[b]? = some (.cells #[y0, y1, y2, y3] T (0, 0))) ∧ Below w.heap.size w W) : b + 1 ≤ W.heap.size := by
  obtain ⟨y0, y1, y2, y3, hy⟩ := h.1.2
  exact blk_lt hy

/-- one list behind another one -/
theorem own_join {T : TypeId} {w : World} {lo hi : Nat} {v : Value} {xs ys : List Int} (h : OwnF w lo hi T v (xs.length + ys.length) (fun j => if j < xs.length then iv xs j else iv ys (j - xs.length))) : OwnI T w lo hi v (xs ++ ys) := by
  refine OwnF.ints ?_
  rw [List.length_append]
  exact h.congr fun j _ => iv_append rfl j

theorem OwnI.one {T : TypeId} {w : World} {lo hi : Nat} {v : Value} {xs : List Int} (h : OwnI T w lo hi v xs) : v.oneCell' = true := by
  obtain ⟨p, cap, rfl, _, _⟩ := h.shape
  rfl
/-- rows of the call's own, put behind others, as a step of a region that draws -/
theorem step_append_II {w : World} {ops : Array Oper} {o : Oper} {a : Act} {K : Act → World → Prop} {Q : Exit → Act → World → Prop} {E : Prop} (hgd : o.guard = none) (s x : Operand)
    (ho : o.op = .call { callee := .builtin .append, args := #[s, x], argTypes := #[36, 36] })
    (lo mid hi : Nat) (v u : Value) (rows rows2 : List (List Int)) (hs : a.eval s = v) (hxu : a.eval x = u)
    (h1 : OwnII 24 3 w lo mid v rows) (h2 : OwnII 24 3 w mid hi u rows2) (hm : lo ≤ mid) (hmh : mid ≤ hi) (hhi : hi ≤ w.heap.size) (hl : rows.length + rows2.length ≤ 1000)
    (h : ∀ v' w', OwnII 24 3 w' lo w'.heap.size v' (rows ++ rows2) → Below lo w w' → K (a.put o.dst v') w') :
    if Region.wanted o (yielded ops a.tmps) = true then Oper.wp Try.prog o a w K Q else E := by
  obtain ⟨f, g1, g2, g3⟩ := h1
  obtain ⟨g, k1, k2, k3⟩ := h2
  refine step_append_F hgd s x 36 ho 24 (.slice none 0 0) 24 Try.underlying36 info_sl rfl lo mid v rows.length f hs g1 (by omega) (by omega) u rows2.length g hxu k1.rd (fun j hj => (k2 j hj).one) (by unfold maxLen; omega) (by omega) ?_
  intro v' w' ho' hg'
  exact h v' w' (OwnII.join g1 g2 g3 k2 k3 hm hmh (by decide) hg' (Nat.le_trans hhi hg'.size) ho') (grownBy_below2 hg' g1 (Nat.le_refl _) (by omega))

/-- the boxes of two arguments -/
theorem boxes_ab (w : World) (A B : Obj) : ((w.alloc A).alloc B).heap[w.heap.size]? = some A ∧ ((w.alloc A).alloc B).heap[w.heap.size + 1]? = some B := by
  refine ⟨?_, heap_alloc_at _ _ (by simp)⟩
  rw [heap_alloc_low _ _ (by simp)]; exact heap_alloc_top _ _
/-- .. and the result's cell -/
theorem boxes_abz (w : World) (A B Z : Obj) : (((w.alloc A).alloc B).alloc Z).heap[w.heap.size]? = some A ∧ (((w.alloc A).alloc B).alloc Z).heap[w.heap.size + 1]? = some B ∧ (((w.alloc A).alloc B).alloc Z).heap[w.heap.size + 1 + 1]? = some Z := by
  refine ⟨?_, ?_, heap_alloc_at _ _ (by simp)⟩
  · rw [heap_alloc_low _ _ (by simp; omega)]; exact (boxes_ab w A B).1
  · rw [heap_alloc_low _ _ (by simp)]; exact (boxes_ab w A B).2
theorem size_ab (w : World) (A B : Obj) : ((w.alloc A).alloc B).heap.size = w.heap.size + 1 + 1 := by simp
theorem size_abz (w : World) (A B Z : Obj) : (((w.alloc A).alloc B).alloc Z).heap.size = w.heap.size + 1 + 1 + 1 := by simp

end Go.Proofs.Ytllmhicmikpfeaa

namespace Go.Proofs.Ytllmhicmikpfeaa
set_option linter.all false
open Go.RowKit

/-- a slice that can be read: n elements of so many cells each -/
def RdS (w : World) (size : Nat) (v : Value) (n : Nat) (F : Nat → Nat → Value) : Prop :=
  ∃ p cap, v = .slice p n cap ∧ (n ≤ cap ∧ cap ≤ maxLen) ∧ (0 < n → ∃ b, p = some ⟨b, 0, none⟩ ∧ ∀ i, i < n → ∀ j, j < size → w.cell? ⟨b, i * size + j, none⟩ = some (F i j))
theorem RdS.of_cells {w w' : World} {size : Nat} {v : Value} {n : Nat} {F : Nat → Nat → Value} (h : RdS w size v n F) (hc : ∀ a x, w.cell? a = some x → w'.cell? a = some x) : RdS w' size v n F := by
  obtain ⟨p, cap, rfl, hm, h⟩ := h
  refine ⟨p, cap, rfl, hm, fun h0 => ?_⟩
  obtain ⟨b, hp, hx⟩ := h h0
  exact ⟨b, hp, fun i hi j hj => hc _ _ (hx i hi j hj)⟩
theorem RdS.below {w w' : World} {size : Nat} {v : Value} {n : Nat} {F : Nat → Nat → Value} (h : RdS w size v n F) (hb : Below w.heap.size w w') : RdS w' size v n F :=
  h.of_cells fun a x hx => by rw [hb.cell (World.block_lt_of_cell? w a hx)]; exact hx
theorem RdS.qt {w w' : World} {size : Nat} {v : Value} {n : Nat} {F : Nat → Nat → Value} (h : RdS w size v n F) (q : Qt w w') : RdS w' size v n F := h.of_cells fun _ _ hx => q.cell hx
theorem RdS.congr {w : World} {size : Nat} {v : Value} {n : Nat} {F G : Nat → Nat → Value} (h : RdS w size v n F) (e : ∀ i, i < n → ∀ j, j < size → F i j = G i j) : RdS w size v n G := by
  obtain ⟨p, cap, rfl, hm, h⟩ := h
  refine ⟨p, cap, rfl, hm, fun h0 => ?_⟩
  obtain ⟨b, hp, hx⟩ := h h0
  exact ⟨b, hp, fun i hi j hj => by rw [← e i hi j hj]; exact hx i hi j hj⟩

/-- a slice of structs that a call made -/
def OwnS (w : World) (lo hi : Nat) (T : TypeId) (size : Nat) (v : Value) (n : Nat) (F : Nat → Nat → Value) : Prop :=
  ∃ xs, Own w lo hi T size v n xs ∧ ∀ i, i < n → ∀ j, j < size → xs[i * size + j]? = some (F i j)

namespace OwnS
variable {w w' : World} {lo hi : Nat} {T : TypeId} {size : Nat} {v : Value} {n : Nat} {F : Nat → Nat → Value}
theorem rd (h : OwnS w lo hi T size v n F) : RdS w size v n F := by
  obtain ⟨xs, h, hf⟩ := h
  rcases h.1.2 with ⟨rfl, e⟩ | ⟨g, cap, cur, rfl, _, _, hm, hm2, _⟩
  · exact ⟨none, 0, by rw [e], ⟨by omega, Nat.zero_le _⟩, fun h0 => absurd h0 (by omega)⟩
  · refine ⟨_, cap, rfl, ⟨hm, hm2⟩, fun _ => ⟨g, rfl, fun i hi j hj => ?_⟩⟩
    have hadd : ∀ j, (⟨g, 0, none⟩ : Addr).add j = ⟨g, 0 + j, none⟩ := fun j => by unfold Addr.add; split <;> simp_all
    have c1 := h.1.cells (g := g) rfl _ _ (hf i hi j hj)
    rw [hadd, Nat.zero_add] at c1
    exact c1
theorem shape (h : OwnS w lo hi T size v n F) : ∃ p cap, v = .slice p n cap ∧ n ≤ cap ∧ cap ≤ maxLen ∧ (0 < n → ∃ g, p = some ⟨g, 0, none⟩ ∧ lo ≤ g ∧ g < hi ∧ g < w.heap.size) := by
  obtain ⟨xs, h, hf⟩ := h
  have hb := fun k hk => h.block (k := k) hk
  rcases h.1.2 with ⟨rfl, e⟩ | ⟨g, cap, cur, rfl, _, _, hm, hm2, _⟩
  · exact ⟨none, 0, by rw [e], by omega, Nat.zero_le _, fun h0 => absurd h0 (by omega)⟩
  · exact ⟨_, cap, rfl, hm, hm2, fun _ => ⟨g, rfl, hb g rfl⟩⟩
theorem at_ {p : Option Addr} {cap : Nat} (h : OwnS w lo hi T size (.slice p n cap) n F) (h0 : 0 < n) : ∃ g, p = some ⟨g, 0, none⟩ ∧ lo ≤ g ∧ g < hi ∧ g < w.heap.size := by
  obtain ⟨q, c, e, _, _, h⟩ := h.shape
  injection e with e1 e2 e3
  subst e1
  exact h h0
theorem cell {g n' cap : Nat} (h : OwnS w lo hi T size (.slice (some ⟨g, 0, none⟩) n' cap) n F) {i j : Nat} (hi : i < n) (hj : j < size) : w.cell? ⟨g, i * size + j, none⟩ = some (F i j) := by
  obtain ⟨p, c, e, _, h⟩ := h.rd
  injection e with e1 _ _
  obtain ⟨b, e2, h⟩ := h (by omega)
  rw [← e1] at e2
  obtain rfl : g = b := by injection e2 with e2; injection e2
  exact h i hi j hj
theorem frozen {g n' cap : Nat} (h : OwnS w lo hi T size (.slice (some ⟨g, 0, none⟩) n' cap) n F) (j : Nat) : w.frozen? ⟨g, j, none⟩ = false := by
  obtain ⟨xs, h, _⟩ := h
  rcases h.1.2 with ⟨h', _⟩ | ⟨g', cap', cur, h', _, hg, _⟩
  · simp at h'
  · simp only [Value.slice.injEq, Option.some.injEq, Addr.mk.injEq, and_true, true_and] at h'
    obtain ⟨rfl, _, _⟩ := h'
    exact free_of_blk hg j
theorem congr {G : Nat → Nat → Value} (h : OwnS w lo hi T size v n F) (e : ∀ i, i < n → ∀ j, j < size → F i j = G i j) : OwnS w lo hi T size v n G := by
  obtain ⟨xs, h, hf⟩ := h
  exact ⟨xs, h, fun i hi j hj => by rw [← e i hi j hj]; exact hf i hi j hj⟩
theorem keep (h : OwnS w lo hi T size v n F) (hb : ∀ k, lo ≤ k → k < hi → k < w.heap.size → w'.heap[k]? = w.heap[k]?) : OwnS w' lo hi T size v n F := by
  obtain ⟨xs, h, hf⟩ := h
  exact ⟨xs, h.keep hb, hf⟩
theorem below (h : OwnS w lo hi T size v n F) (hb : Below w.heap.size w w') : OwnS w' lo hi T size v n F := h.keep fun k _ _ h3 => hb.block k h3
theorem frm {lo' hi' : Nat} (h : OwnS w lo hi T size v n F) (hb : Frm lo' hi' w w') (ho : hi ≤ lo' ∨ hi' ≤ lo) : OwnS w' lo hi T size v n F := h.keep fun k h1 h2 h3 => hb.block k h3 (by omega)
theorem mono {lo' hi' : Nat} (h : OwnS w lo hi T size v n F) (h1 : lo' ≤ lo) (h2 : hi ≤ hi') : OwnS w lo' hi' T size v n F := by
  obtain ⟨xs, h, hf⟩ := h
  exact ⟨xs, h.mono h1 h2, hf⟩
theorem besides {lo' hi' : Nat} (h : OwnS w lo hi T size v n F) (hf : Frm lo' hi' w w') (hne : ∀ b, v.ownBlock = some b → b < lo' ∨ hi' ≤ b) : OwnS w' lo hi T size v n F := by
  obtain ⟨xs, h, hx⟩ := h
  exact ⟨xs, ⟨ownsRow_of_block h.1 fun b hb => hf.block b (Own.block h hb).2.2 (hne b hb), h.2⟩, hx⟩
theorem blocks (h : OwnS w lo hi T size v n F) : ∀ k, v.ownBlock = some k → lo ≤ k ∧ k < hi := by
  obtain ⟨xs, h, _⟩ := h
  exact fun k hk => ⟨(h.block hk).1, (h.block hk).2.1⟩
theorem kind (h : OwnS w lo hi T size v n F) : ∀ g, v.ownBlock = some g → ∃ c fz, w.heap[g]? = some (.cells c T fz) := by
  obtain ⟨xs, h, _⟩ := h
  exact Lib.ownsRow_kind h.1
theorem setCell (h : OwnS w lo hi T size v n F) {a : Addr} (ho : a.block < lo ∨ hi ≤ a.block) (u : Value) : OwnS (w.setCell a u) lo hi T size v n F := by
  obtain ⟨xs, h, hf⟩ := h
  exact ⟨xs, h.setCell ho u, hf⟩
/-- a field of an element is written -/
theorem set {g n' cap : Nat} (h : OwnS w lo hi T size (.slice (some ⟨g, 0, none⟩) n' cap) n F) {i0 j0 : Nat} (hi0 : i0 < n) (hj0 : j0 < size) (u : Value) :
    OwnS (w.setCell ⟨g, i0 * size + j0, none⟩ u) lo hi T size (.slice (some ⟨g, 0, none⟩) n' cap) n (fun i j => if i = i0 ∧ j = j0 then u else F i j) := by
  obtain ⟨xs, h, hf⟩ := h
  have hle : ∀ i j, i < n → j < size → i * size + j < n * size := fun i j hi hj => by
    have : (i + 1) * size ≤ n * size := Nat.mul_le_mul_right _ hi
    rw [Nat.add_mul] at this; omega
  obtain ⟨q, c, e, _⟩ := (OwnS.shape ⟨xs, h, hf⟩ : _)
  have en : n' = n := by injection e
  subst en
  refine ⟨xs.set (i0 * size + j0) u, ⟨(World.ownsRow.stored h.1 _ u).1, h.2⟩, fun i hi j hj => ?_⟩
  rw [List.getElem?_set]
  by_cases e : i = i0 ∧ j = j0
  · obtain ⟨rfl, rfl⟩ := e
    have hlt : i * size + j < xs.length := by rw [h.len]; exact hle _ _ hi0 hj0
    simp [hlt]
  · show _ = some (if i = i0 ∧ j = j0 then u else F i j)
    rw [if_neg e, if_neg fun c => e ?_]
    · exact hf i hi j hj
    · have h1 := Nat.mul_add_mod' i size j
      have h2 := Nat.mul_add_mod' i0 size j0
      rw [Nat.mod_eq_of_lt hj] at h1
      rw [Nat.mod_eq_of_lt hj0] at h2
      have : j = j0 := by rw [← h1, ← h2, c]
      subst this
      exact ⟨Nat.eq_of_mul_eq_mul_right (by omega) (by omega : i * size = i0 * size), rfl⟩
theorem nil (w : World) (lo hi : Nat) (T : TypeId) (size : Nat) (F : Nat → Nat → Value) : OwnS w lo hi T size (.slice none 0 0) 0 F :=
  ⟨[], ⟨World.ownsRow_nil _ _ _ _, fun k hk => by simp [Value.ownBlock] at hk⟩, fun i hi => absurd hi (Nat.not_lt_zero _)⟩
theorem made0 (w : World) (T : TypeId) (size : Nat) (F : Nat → Nat → Value) : OwnS (w.alloc (.cells #[] T)) w.heap.size (w.heap.size + 1) T size (.slice (some ⟨w.heap.size, 0, none⟩) 0 0) 0 F :=
  ⟨[], ⟨World.ownsRow_made w #[] 0 (Nat.le_refl _) (Nat.zero_le _) (by simp), fun k hk => by simp [Value.ownBlock] at hk; omega⟩, fun i hi => absurd hi (Nat.not_lt_zero _)⟩
/-- behind an append on u: what is owned in other blocks stays -/
theorem grown {u : Value} (h : OwnS w lo hi T size v n F) (hg : w.grownBy w' u.ownBlock) (hne : ∀ k, v.ownBlock = some k → u.ownBlock ≠ some k) : OwnS w' lo hi T size v n F := by
  obtain ⟨xs, h, hf⟩ := h
  exact ⟨xs, ⟨ownsRow_of_block h.1 fun k hk => hg.block k (h.block hk).2.2 fun e => hne k hk e.symm, h.2⟩, hf⟩
end OwnS

theorem ne_of_kinds {w : World} {T U : TypeId} {g : Nat} (h1 : ∃ c fz, w.heap[g]? = some (.cells c T fz)) (h2 : ∃ c fz, w.heap[g]? = some (.cells c U fz)) (hT : T ≠ U) : False := by
  obtain ⟨c, fz, h1⟩ := h1
  obtain ⟨c', fz', h2⟩ := h2
  rw [h1] at h2
  injection h2 with h2
  injection h2 with _ h2
  exact hT h2
theorem OwnI.kind {T : TypeId} {w : World} {lo hi : Nat} {v : Value} {xs : List Int} (h : OwnI T w lo hi v xs) : ∀ g, v.ownBlock = some g → ∃ c fz, w.heap[g]? = some (.cells c T fz) := Lib.ownsRow_kind h.1

/-- append of one struct onto structs of the call's own -/
theorem run_append_S {P : Program} {w : World} {t ty e : TypeId} {i : TypeInfo} {z : Value} {size bytes : Nat} (ht : P.underlying t = some (.slice e)) (hi : P.info? e = some i) (hz : i.zero = some z)
    (hsize : i.size = size) (hby : i.bytes = bytes) (hzs : z.cells.size = size) (h0 : 0 < size)
    (lo hi' : Nat) (v : Value) (n : Nat) (F : Nat → Nat → Value) (hown : OwnS w lo hi' e size v n F) (hlo : lo ≤ w.heap.size)
    (b c : Nat) (G : Nat → Value) (hc : ∀ j, j < size → w.cell? ⟨b, j, none⟩ = some (G j)) (h1 : ∀ j, j < size → (G j).oneCell' = true) (h63 : n + 1 ≤ maxLen) (hbytes : (n + 1) * bytes ≤ 140737488355328) :
    ∃ v' w', (Builtin.append_ #[t, t] ty #[v, .slice (some ⟨b, 0, none⟩) 1 c]).run P w = .ok v' w' ∧ OwnS w' lo w'.heap.size e size v' (n + 1) (fun k => if k < n then F k else G) ∧ w.grownBy w' v.ownBlock := by
  obtain ⟨xs, ho, hf⟩ := hown
  have hG : ∀ (j : Nat) (u : Value), ((List.range size).map G)[j]? = some u → j < size ∧ u = G j := fun j u hj => by
    have hlt : j < size := by
      rcases Nat.lt_or_ge j size with h | h
      · exact h
      · rw [List.getElem?_eq_none (by simpa using h)] at hj; cases hj
    simp [hlt] at hj
    exact ⟨hlt, hj.symm⟩
  obtain ⟨v', w', hr, h2, h3, _⟩ := run_append_own (P := P) w lo t ty e i z size bytes ht hi hz hsize hby hzs h0 v n xs ho.1 ⟨b, 0, none⟩ 1 c ((List.range size).map G) (by simp)
    (fun j u hj => by
      obtain ⟨hlt, rfl⟩ := hG j u hj
      have hadd : (⟨b, 0, none⟩ : Addr).add j = ⟨b, 0 + j, none⟩ := by unfold Addr.add; split <;> simp_all
      rw [hadd, Nat.zero_add]
      exact hc j hlt)
    (fun u hu => by
      simp only [List.mem_map, List.mem_range] at hu
      obtain ⟨j, hj, rfl⟩ := hu
      exact h1 j hj) h63 hbytes hlo
  refine ⟨v', w', hr, ⟨_, Own.of_row h2, fun i hi j hj => ?_⟩, h3⟩
  have hl : xs.length = n * size := ho.len
  by_cases h : i < n
  · have hle : i * size + j < n * size := by
      have : (i + 1) * size ≤ n * size := Nat.mul_le_mul_right _ h
      rw [Nat.add_mul] at this; omega
    simp only [h, if_true]
    rw [List.getElem?_append_left (by omega), hf i h j hj]
  · have : i = n := by omega
    subst this
    simp only [h, if_false]
    rw [List.getElem?_append_right (by omega), hl, Nat.add_sub_cancel_left]
    simp [hj]
theorem info_partsS {P : Program} {t : TypeId} {z : Value} {size bytes : Nat} (h : (P.info? t).map (fun i => (i.zero, i.size, i.bytes)) = some (some z, size, bytes)) : ∃ i, P.info? t = some i ∧ i.zero = some z ∧ i.size = size ∧ i.bytes = bytes := by
  cases hi : P.info? t with
  | none => rw [hi] at h; cases h
  | some i =>
    rw [hi] at h
    simp only [Option.map_some, Option.some.injEq, Prod.mk.injEq] at h
    exact ⟨i, rfl, h.1, h.2.1, h.2.2⟩
/-- .. as a law of the walk -/
theorem wpList_append_S {P : Program} {w : World} {ops : Array Oper} {rest : List Oper} {o : Oper} {a : Act} {Q : Exit → Act → World → Prop} (hgd : o.guard = none) (s x : Operand) (t : TypeId)
    (ho : o.op = .call { callee := .builtin .append, args := #[s, x], argTypes := #[t, t] })
    (e : TypeId) (z : Value) (size bytes : Nat) (ht : P.underlying t = some (.slice e)) (hinfo : (P.info? e).map (fun i => (i.zero, i.size, i.bytes)) = some (some z, size, bytes)) (hzs : z.cells.size = size) (h0 : 0 < size)
    (lo hi' : Nat) (v : Value) (n : Nat) (F : Nat → Nat → Value) (hs : a.eval s = v) (hown : OwnS w lo hi' e size v n F) (hlo : lo ≤ w.heap.size)
    (b c : Nat) (G : Nat → Value) (hxu : a.eval x = .slice (some ⟨b, 0, none⟩) 1 c) (hc : ∀ j, j < size → w.cell? ⟨b, j, none⟩ = some (G j)) (h1 : ∀ j, j < size → (G j).oneCell' = true) (h63 : n + 1 ≤ maxLen) (hbytes : (n + 1) * bytes ≤ 140737488355328)
    (h : ∀ v' w', OwnS w' lo w'.heap.size e size v' (n + 1) (fun k => if k < n then F k else G) → w.grownBy w' v.ownBlock → wpList P ops Q rest (a.put o.dst v') w') :
    wpList P ops Q (o :: rest) a w := by
  refine wpList_plain hgd fun K hK' => ?_
  obtain ⟨i, hi, hz, hsz, hby⟩ := info_partsS hinfo
  obtain ⟨v', w', hr, h2, h3⟩ := run_append_S (P := P) (ty := o.type) ht hi hz hsz hby hzs h0 lo hi' v n F hown hlo b c G hc h1 h63 hbytes
  unfold Oper.wp
  simp [execOp, ho, resolve, invoke, builtin, hs, hxu, hr, Result.andThen]
  exact hK' _ _ (h v' w' h2 h3)
/-- .. as a step of a region that draws -/
theorem step_append_S {P : Program} {w : World} {ops : Array Oper} {o : Oper} {a : Act} {K : Act → World → Prop} {Q : Exit → Act → World → Prop} {E : Prop} (hgd : o.guard = none) (s x : Operand) (t : TypeId)
    (ho : o.op = .call { callee := .builtin .append, args := #[s, x], argTypes := #[t, t] })
    (e : TypeId) (z : Value) (size bytes : Nat) (ht : P.underlying t = some (.slice e)) (hinfo : (P.info? e).map (fun i => (i.zero, i.size, i.bytes)) = some (some z, size, bytes)) (hzs : z.cells.size = size) (h0 : 0 < size)
    (lo hi' : Nat) (v : Value) (n : Nat) (F : Nat → Nat → Value) (hs : a.eval s = v) (hown : OwnS w lo hi' e size v n F) (hlo : lo ≤ w.heap.size)
    (b c : Nat) (G : Nat → Value) (hxu : a.eval x = .slice (some ⟨b, 0, none⟩) 1 c) (hc : ∀ j, j < size → w.cell? ⟨b, j, none⟩ = some (G j)) (h1 : ∀ j, j < size → (G j).oneCell' = true) (h63 : n + 1 ≤ maxLen) (hbytes : (n + 1) * bytes ≤ 140737488355328)
    (h : ∀ v' w', OwnS w' lo w'.heap.size e size v' (n + 1) (fun k => if k < n then F k else G) → w.grownBy w' v.ownBlock → K (a.put o.dst v') w') :
    if Region.wanted o (yielded ops a.tmps) = true then Oper.wp P o a w K Q else E := by
  have hw : Region.wanted o (yielded ops a.tmps) = true := by simp [Region.wanted, hgd]
  rw [if_pos hw]
  obtain ⟨i, hi, hz, hsz, hby⟩ := info_partsS hinfo
  obtain ⟨v', w', hr, h2, h3⟩ := run_append_S (P := P) (ty := o.type) ht hi hz hsz hby hzs h0 lo hi' v n F hown hlo b c G hc h1 h63 hbytes
  unfold Oper.wp
  simp [execOp, ho, resolve, invoke, builtin, hs, hxu, hr, Result.andThen]
  exact h v' w' h2 h3

end Go.Proofs.Ytllmhicmikpfeaa

namespace Go.Proofs.Ytllmhicmikpfeaa
set_option linter.all false
set_option maxRecDepth 100000
open Go.RowKit

abbrev Mn := Int × Int
def mnVs (cs : List Mn) : List Value := cs.flatMap fun c => [.int .i64 c.1, .int .i64 c.2]
theorem mnVs_append (cs ds : List Mn) : mnVs (cs ++ ds) = mnVs cs ++ mnVs ds := by simp [mnVs]
theorem mnVs_length (cs : List Mn) : (mnVs cs).length = cs.length * 2 := by
  induction cs with
  | nil => rfl
  | cons c cs ih => simp only [mnVs, List.flatMap_cons, List.length_append, List.length_cons, List.length_nil] at ih ⊢; omega
theorem mnVs_get (cs : List Mn) : ∀ i, i < cs.length → (mnVs cs)[i * 2]? = some (.int .i64 (cs.getD i (0, 0)).1) ∧ (mnVs cs)[i * 2 + 1]? = some (.int .i64 (cs.getD i (0, 0)).2) := by
  induction cs with
  | nil => intro i hi; exact absurd hi (Nat.not_lt_zero _)
  | cons c cs ih =>
    intro i hi
    have e : mnVs (c :: cs) = .int .i64 c.1 :: .int .i64 c.2 :: mnVs cs := by simp [mnVs]
    rw [e]
    cases i with
    | zero => simp
    | succ i =>
      have := ih i (by simpa using hi)
      rw [show (i + 1) * 2 = i * 2 + 1 + 1 by omega]
      simpa using this
theorem mnVs_one {cs : List Mn} {u : Value} (h : u ∈ mnVs cs) : u.oneCell' = true := by
  unfold mnVs at h
  obtain ⟨c, _, h⟩ := List.mem_flatMap.1 h
  simp only [List.mem_cons, List.not_mem_nil, or_false] at h
  rcases h with rfl | rfl <;> rfl
/-- terms that can be read -/
def RdMn (w : World) (v : Value) (cs : List Mn) : Prop :=
  ∃ p cap, v = .slice p cs.length cap ∧ (cs.length ≤ cap ∧ cap ≤ maxLen) ∧ (0 < cs.length → ∃ b, p = some ⟨b, 0, none⟩ ∧ ∀ i, i < cs.length → w.cell? ⟨b, i * 2, none⟩ = some (.int .i64 (cs.getD i (0, 0)).1) ∧ w.cell? ⟨b, i * 2 + 1, none⟩ = some (.int .i64 (cs.getD i (0, 0)).2))
namespace RdMn
variable {w w' : World} {v : Value} {cs : List Mn}
theorem of_cells (h : RdMn w v cs) (hc : ∀ a x, w.cell? a = some x → w'.cell? a = some x) : RdMn w' v cs := by
  obtain ⟨p, cap, rfl, hm, h⟩ := h
  refine ⟨p, cap, rfl, hm, fun h0 => ?_⟩
  obtain ⟨b, hp, hx⟩ := h h0
  exact ⟨b, hp, fun i hi => ⟨hc _ _ (hx i hi).1, hc _ _ (hx i hi).2⟩⟩
theorem below (h : RdMn w v cs) (hb : Below w.heap.size w w') : RdMn w' v cs :=
  h.of_cells fun a x hx => by rw [hb.cell (World.block_lt_of_cell? w a hx)]; exact hx
theorem qt (h : RdMn w v cs) (q : Qt w w') : RdMn w' v cs := h.of_cells fun _ _ hx => q.cell hx
theorem sh (h : RdMn w v cs) : ∃ p c, v = .slice p cs.length c ∧ cs.length ≤ c ∧ c ≤ maxLen := by
  obtain ⟨p, cap, e, hm, _⟩ := h
  exact ⟨p, cap, e, hm.1, hm.2⟩
end RdMn
/-- terms that a call made -/
def OwnMn (w : World) (lo hi : Nat) (v : Value) (cs : List Mn) : Prop := Own w lo hi 81 2 v cs.length (mnVs cs)
namespace OwnMn
variable {w w' : World} {lo hi : Nat} {v : Value} {cs : List Mn}
theorem keep (h : OwnMn w lo hi v cs) (hb : ∀ k, lo ≤ k → k < hi → k < w.heap.size → w'.heap[k]? = w.heap[k]?) : OwnMn w' lo hi v cs := Own.keep h hb
theorem below (h : OwnMn w lo hi v cs) (hb : Below w.heap.size w w') : OwnMn w' lo hi v cs := Own.below h hb
theorem mono {lo' hi' : Nat} (h : OwnMn w lo hi v cs) (h1 : lo' ≤ lo) (h2 : hi ≤ hi') : OwnMn w lo' hi' v cs := Own.mono h h1 h2
theorem blocks (h : OwnMn w lo hi v cs) : ∀ k, v.ownBlock = some k → lo ≤ k ∧ k < hi := fun k hk => ⟨(Own.block h hk).1, (Own.block h hk).2.1⟩
/-- behind an append on u: what is owned in other blocks stays -/
theorem grown {u : Value} (h : OwnMn w lo hi v cs) (hg : w.grownBy w' u.ownBlock) (hne : ∀ k, v.ownBlock = some k → u.ownBlock ≠ some k) : OwnMn w' lo hi v cs :=
  ⟨ownsRow_of_block h.1 fun k hk => hg.block k (h.block hk).2.2 fun e => hne k hk e.symm, h.2⟩
theorem rd (h : OwnMn w lo hi v cs) : RdMn w v cs := by
  obtain ⟨h, _⟩ := h
  have h' := h
  rcases h'.2 with ⟨rfl, e⟩ | ⟨g, cap, cur, rfl, _, _, hm, hm2, _⟩
  · exact ⟨none, 0, by rw [e], ⟨by omega, Nat.zero_le _⟩, fun h0 => absurd h0 (by omega)⟩
  · refine ⟨_, cap, rfl, ⟨hm, hm2⟩, fun _ => ⟨g, rfl, fun i hi => ?_⟩⟩
    obtain ⟨g1, g2⟩ := mnVs_get cs i hi
    have hadd : ∀ j, (⟨g, 0, none⟩ : Addr).add j = ⟨g, 0 + j, none⟩ := fun j => by unfold Addr.add; split <;> simp_all
    have c1 := h.cells (g := g) rfl _ _ g1
    have c2 := h.cells (g := g) rfl _ _ g2
    rw [hadd, Nat.zero_add] at c1 c2
    exact ⟨c1, c2⟩
theorem shape (h : OwnMn w lo hi v cs) : ∃ p cap, v = .slice p cs.length cap ∧ cs.length ≤ cap ∧ cap ≤ maxLen ∧ (0 < cs.length → ∃ g, p = some ⟨g, 0, none⟩ ∧ lo ≤ g ∧ g < hi ∧ g < w.heap.size) := by
  rcases h.1.2 with ⟨rfl, e⟩ | ⟨g, cap, cur, rfl, _, _, hm, hm2, _⟩
  · exact ⟨none, 0, by rw [e], by omega, Nat.zero_le _, fun h0 => absurd h0 (by omega)⟩
  · exact ⟨_, cap, rfl, hm, hm2, fun _ => ⟨g, rfl, Own.block h rfl⟩⟩
theorem free {g cap n : Nat} (h : OwnMn w lo hi (.slice (some ⟨g, 0, none⟩) n cap) cs) (j : Nat) : w.frozen? ⟨g, j, none⟩ = false := by
  rcases h.1.2 with ⟨h', _⟩ | ⟨g', cap', cur, h', _, hg, _⟩
  · simp at h'
  · simp only [Value.slice.injEq, Option.some.injEq, Addr.mk.injEq, and_true, true_and] at h'
    obtain ⟨rfl, _, _⟩ := h'
    exact free_of_blk hg j
theorem made0 (w : World) : OwnMn (w.alloc (.cells #[] 81)) w.heap.size (w.heap.size + 1) (.slice (some ⟨w.heap.size, 0, none⟩) 0 0) [] :=
  ⟨⟨rfl, .inr ⟨w.heap.size, 0, #[], rfl, Nat.le_refl _, heap_alloc_top _ _, Nat.le_refl _, Nat.zero_le _, rfl, rfl⟩⟩, fun k hk => by simp [Value.ownBlock] at hk; omega⟩
/-- the second field of the last element is written -/
theorem setLast {g n cap : Nat} {S : List Mn} {m : Mn} (h : OwnMn w lo hi (.slice (some ⟨g, 0, none⟩) n cap) (S ++ [m])) (c : Int) :
    OwnMn (w.setCell ⟨g, S.length * 2 + 1, none⟩ (.int .i64 c)) lo hi (.slice (some ⟨g, 0, none⟩) n cap) (S ++ [(m.1, c)]) := by
  obtain ⟨q, k, en, _⟩ := h.shape
  injection en with _ en _
  subst en
  have hl : (S ++ [(m.1, c)]).length = (S ++ [m]).length := by simp
  have e : mnVs (S ++ [(m.1, c)]) = (mnVs (S ++ [m])).set (S.length * 2 + 1) (.int .i64 c) := by
    rw [mnVs_append, mnVs_append, List.set_append_right _ _ (by rw [mnVs_length]; omega), mnVs_length, show S.length * 2 + 1 - S.length * 2 = 1 by omega]
    simp [mnVs]
  unfold OwnMn
  rw [hl, e]
  exact ⟨(World.ownsRow.stored h.1 _ (.int .i64 c)).1, h.2⟩
end OwnMn
theorem info_mon : (Try.prog.info? 81).map (fun i => (i.zero, i.size, i.bytes)) = some (some (.agg #[.int .i64 0, .int .i64 0]), 2, 16) := by kernel_rfl
/-- one term put behind terms of the call's own -/
theorem wpList_append_Mn {w : World} {ops : Array Oper} {rest : List Oper} {o : Oper} {a : Act} {Q : Exit → Act → World → Prop} (hgd : o.guard = none) (s x : Operand)
    (ho : o.op = .call { callee := .builtin .append, args := #[s, x], argTypes := #[59, 59] })
    (lo hi : Nat) (v : Value) (cs : List Mn) (hs : a.eval s = v) (hown : OwnMn w lo hi v cs) (hlo : lo ≤ w.heap.size)
    (b k : Nat) (c : Mn) (hx : a.eval x = .slice (some ⟨b, 0, none⟩) 1 k) (h0 : w.cell? ⟨b, 0, none⟩ = some (.int .i64 c.1)) (h1 : w.cell? ⟨b, 1, none⟩ = some (.int .i64 c.2)) (hn : cs.length + 1 ≤ 4000000000)
    (h : ∀ v' w', OwnMn w' lo w'.heap.size v' (cs ++ [c]) → w.grownBy w' v.ownBlock → wpList Try.prog ops Q rest (a.put o.dst v') w') :
    wpList Try.prog ops Q (o :: rest) a w := by
  obtain ⟨i, hi, hz, hsz, hby⟩ := info_partsS info_mon
  refine wpList_plain hgd fun K hK' => ?_
  obtain ⟨v', w', hr, h2, h3, _⟩ := run_append_own (P := Try.prog) w lo 59 o.type 81 i _ 2 16 Try.underlying59 hi hz hsz hby rfl (by omega) v cs.length (mnVs cs) hown.1 ⟨b, 0, none⟩ 1 k [.int .i64 c.1, .int .i64 c.2] rfl
    (fun j u hj => by
      have hadd : (⟨b, 0, none⟩ : Addr).add j = ⟨b, 0 + j, none⟩ := by unfold Addr.add; split <;> simp_all
      rw [hadd, Nat.zero_add]
      match j, hj with
      | 0, hj => simp at hj; subst hj; exact h0
      | 1, hj => simp at hj; subst hj; exact h1
      | j + 2, hj => simp at hj)
    (fun u hu => by
      simp only [List.mem_cons, List.not_mem_nil, or_false] at hu
      rcases hu with rfl | rfl <;> rfl) (by unfold maxLen; omega) (by omega) hlo
  unfold Oper.wp
  simp [execOp, ho, resolve, invoke, builtin, hs, hx, hr, Result.andThen]
  refine hK' _ _ (h v' w' ?_ h3)
  have := Own.of_row h2
  unfold OwnMn
  rw [mnVs_append, List.length_append]
  exact this

/-- many terms put behind terms of the call's own -/
theorem wpList_append_MnL {w : World} {ops : Array Oper} {rest : List Oper} {o : Oper} {a : Act} {Q : Exit → Act → World → Prop} (hgd : o.guard = none) (s x : Operand)
    (ho : o.op = .call { callee := .builtin .append, args := #[s, x], argTypes := #[59, 59] })
    (lo hi' : Nat) (v : Value) (cs : List Mn) (hs : a.eval s = v) (hown : OwnMn w lo hi' v cs) (hlo : lo ≤ w.heap.size) (hhi : hi' ≤ w.heap.size)
    (u : Value) (ds : List Mn) (hx : a.eval x = u) (hxr : RdMn w u ds) (hn : cs.length + ds.length ≤ 4000000000)
    (h : ∀ v' w', OwnMn w' lo w'.heap.size v' (cs ++ ds) → w.grownBy w' v.ownBlock → wpList Try.prog ops Q rest (a.put o.dst v') w') :
    wpList Try.prog ops Q (o :: rest) a w := by
  obtain ⟨i, hi, hz, hsz, hby⟩ := info_partsS info_mon
  refine wpList_plain hgd fun K hK' => ?_
  obtain ⟨q, c, rfl, ⟨hmc, hcm⟩, hxc⟩ := hxr
  by_cases hm : ds = []
  · subst hm
    obtain ⟨p, cap, rfl, hnc, _, _⟩ := hown.shape
    have hr := run_append_none (P := Try.prog) w 59 o.type 81 i Try.underlying59 hi p q cs.length cap c hnc
    rw [List.length_nil] at hx
    unfold Oper.wp
    simp [execOp, ho, resolve, invoke, builtin, hs, hx, hr, Result.andThen]
    refine hK' _ _ (h _ w ?_ (World.grownBy.refl _ _))
    rw [List.append_nil]
    exact hown.mono (Nat.le_refl _) hhi
  · have hl0 : 0 < ds.length := List.length_pos_iff.2 hm
    obtain ⟨b, rfl, hc⟩ := hxc hl0
    obtain ⟨v', w', hr, h2, h3, _⟩ := run_append_own (P := Try.prog) w lo 59 o.type 81 i _ 2 16 Try.underlying59 hi hz hsz hby rfl (by omega) v cs.length (mnVs cs) hown.1 ⟨b, 0, none⟩ ds.length c (mnVs ds) (mnVs_length ds)
      (fun j u hj => by
        have hadd : (⟨b, 0, none⟩ : Addr).add j = ⟨b, 0 + j, none⟩ := by unfold Addr.add; split <;> simp_all
        rw [hadd, Nat.zero_add]
        have hjl : j < ds.length * 2 := by
          rcases Nat.lt_or_ge j (ds.length * 2) with h | h
          · exact h
          · rw [List.getElem?_eq_none (by rw [mnVs_length]; exact h)] at hj; cases hj
        have hj2 : j / 2 < ds.length := by omega
        obtain ⟨g1, g2⟩ := mnVs_get ds (j / 2) hj2
        obtain ⟨c1, c2⟩ := hc (j / 2) hj2
        rcases Nat.mod_two_eq_zero_or_one j with e | e
        · rw [show j / 2 * 2 = j by omega] at g1 c1
          rw [g1] at hj
          injection hj with hj
          rw [← hj]; exact c1
        · rw [show j / 2 * 2 + 1 = j by omega] at g2 c2
          rw [g2] at hj
          injection hj with hj
          rw [← hj]; exact c2)
      (fun u hu => mnVs_one hu) (by unfold maxLen; omega) (by omega) hlo
    unfold Oper.wp
    simp [execOp, ho, resolve, invoke, builtin, hs, hx, hr, Result.andThen]
    refine hK' _ _ (h v' w' ?_ h3)
    have := Own.of_row h2
    unfold OwnMn
    rw [mnVs_append, List.length_append]
    exact this

/-- one term put behind terms of the call's own, as a step of a region that draws -/
theorem step_append_Mn {w : World} {ops : Array Oper} {o : Oper} {a : Act} {K : Act → World → Prop} {Q : Exit → Act → World → Prop} {E : Prop} (hgd : o.guard = none) (s x : Operand)
    (ho : o.op = .call { callee := .builtin .append, args := #[s, x], argTypes := #[59, 59] })
    (lo hi : Nat) (v : Value) (cs : List Mn) (hs : a.eval s = v) (hown : OwnMn w lo hi v cs) (hlo : lo ≤ w.heap.size)
    (b k : Nat) (c : Mn) (hx : a.eval x = .slice (some ⟨b, 0, none⟩) 1 k) (h0 : w.cell? ⟨b, 0, none⟩ = some (.int .i64 c.1)) (h1 : w.cell? ⟨b, 1, none⟩ = some (.int .i64 c.2)) (hn : cs.length + 1 ≤ 4000000000)
    (h : ∀ v' w', OwnMn w' lo w'.heap.size v' (cs ++ [c]) → w.grownBy w' v.ownBlock → K (a.put o.dst v') w') :
    if Region.wanted o (yielded ops a.tmps) = true then Oper.wp Try.prog o a w K Q else E := by
  have hw : Region.wanted o (yielded ops a.tmps) = true := by simp [Region.wanted, hgd]
  rw [if_pos hw]
  obtain ⟨i, hi, hz, hsz, hby⟩ := info_partsS info_mon
  obtain ⟨v', w', hr, h2, h3, _⟩ := run_append_own (P := Try.prog) w lo 59 o.type 81 i _ 2 16 Try.underlying59 hi hz hsz hby rfl (by omega) v cs.length (mnVs cs) hown.1 ⟨b, 0, none⟩ 1 k [.int .i64 c.1, .int .i64 c.2] rfl
    (fun j u hj => by
      have hadd : (⟨b, 0, none⟩ : Addr).add j = ⟨b, 0 + j, none⟩ := by unfold Addr.add; split <;> simp_all
      rw [hadd, Nat.zero_add]
      match j, hj with
      | 0, hj => simp at hj; subst hj; exact h0
      | 1, hj => simp at hj; subst hj; exact h1
      | j + 2, hj => simp at hj)
    (fun u hu => by
      simp only [List.mem_cons, List.not_mem_nil, or_false] at hu
      rcases hu with rfl | rfl <;> rfl) (by unfold maxLen; omega) (by omega) hlo
  unfold Oper.wp
  simp [execOp, ho, resolve, invoke, builtin, hs, hx, hr, Result.andThen]
  refine h v' w' ?_ h3
  have := Own.of_row h2
  unfold OwnMn
  rw [mnVs_append, List.length_append]
  exact this

end Go.Proofs.Ytllmhicmikpfeaa

namespace Go.Proofs.Ytllmhicmikpfeaa
set_option linter.all false
set_option maxRecDepth 100000
open Go.RowKit Go.Maps Go.WideMaps

/-- seven numbers as a key -/
def kls (e : List Int) : List Lit := e.map fun n => Lit.int .i64 n
def kv (e : List Int) : Value := .agg (e.map fun n => Value.int .i64 n).toArray
def kl (e : List Int) : Lit := .string (keyBytes (kls e))
/-- seven numbers, each from 0 to d -/
def K7 (d : Nat) (e : List Int) : Prop := e.length = 7 ∧ ∀ x ∈ e, 0 ≤ x ∧ x ≤ (d : Int)

theorem und56 : Try.prog.underlying 72 = some (.array 7 3) := by kernel_rfl
theorem und41 : Try.prog.underlying 52 = some (.map 72 3) := by kernel_rfl
theorem undI : Try.prog.underlying 3 = some (.int .i64) := by kernel_rfl
theorem arr7 : ArrKey Try.prog 72 3 7 := ⟨und56, by kernel_rfl, by kernel_rfl, by kernel_rfl⟩
theorem types_pos : ∃ m, Try.prog.types.size = m + 1 := ⟨Try.prog.types.size - 1, by have : 0 < Try.prog.types.size := of_decide_eq_true (by kernel_rfl); omega⟩
theorem klaw : Keyed Try.prog 72 := Keyed.of_law arr7.law
theorem zeroI (w : World) : (zeroValue 3).run Try.prog w = .ok (.int .i64 0) w := by kernel_rfl

theorem wf_of {d : Nat} {x : Int} (hd : d ≤ 1000000) (h : 0 ≤ x ∧ x ≤ (d : Int)) : (Lit.int .i64 x).wf = true := WalkArith.wf_i64 (by omega)
theorem keyOf_kv {e : List Int} {d : Nat} (h : K7 d e) (hd : d ≤ 1000000) : keyOf Try.prog 72 (kv e) = some (kl e) := by
  obtain ⟨hl, hr⟩ := h
  match e, hl with
  | [a, b, c, x, y, z, u], _ =>
    have wa := wf_of hd (hr a (by simp))
    have wb := wf_of hd (hr b (by simp))
    have wc := wf_of hd (hr c (by simp))
    have wx := wf_of hd (hr x (by simp))
    have wy := wf_of hd (hr y (by simp))
    have wz := wf_of hd (hr z (by simp))
    have wu := wf_of hd (hr u (by simp))
    have hkt := arr7.keyType types_pos
    obtain ⟨m, hm⟩ := types_pos
    unfold keyOf kv kl kls
    simp only [und56]
    rw [if_pos (by simp [hkt, Value.formed, und56, arr7.size]), hm]
    unfold Program.keyLits
    simp only [und56, Value.cells]
    rw [if_pos (by rw [arr7.size]; rfl), show List.range 7 = [0, 1, 2, 3, 4, 5, 6] from rfl]
    simp [arr7.one, Program.keyLits, undI, wa, wb, wc, wx, wy, wz, wu]
set_option maxRecDepth 100000 in
theorem kl_inj {e e' : List Int} {d d' : Nat} (h : K7 d e) (hd : d ≤ 1000000) (h' : K7 d' e') (hd' : d' ≤ 1000000) (hk : kl e = kl e') : e = e' := by
  have a := keyOf_kv h hd
  have b := keyOf_kv h' hd'
  rw [← hk] at b
  have := klaw.inj a b
  unfold kv at this
  injection this with this
  have := congrArg Array.toList this
  simp only [List.toList_toArray] at this
  exact (List.map_inj_right (fun x y hxy => by injection hxy)).1 this

end Go.Proofs.Ytllmhicmikpfeaa

namespace Go.Proofs.Ytllmhicmikpfeaa
set_option linter.all false
set_option maxRecDepth 100000
open Go.RowKit Go.Maps Go.WideMaps

abbrev DU := DataW Unit
def coef : DU → Int
  | .lit (.int _ c) => c
  | _ => 0
def SmL (h : Lit → Int) : List (Lit × DU) → Int
  | [] => 0
  | p :: l => coef p.2 * h p.1 + SmL h l
def SmD (D : DU) (h : Lit → Int) : Int := match D with
  | .map es => SmL h es
  | _ => 0
theorem SmL_perm (h : Lit → Int) {l l' : List (Lit × DU)} (hp : l.Perm l') : SmL h l = SmL h l' := by
  induction hp with
  | nil => rfl
  | cons x _ ih => simp only [SmL, ih]
  | swap x y l => simp only [SmL]; omega
  | trans _ _ a b => exact a.trans b
theorem SmL_split (h : Lit → Int) (f : Lit × DU → Bool) : ∀ l : List (Lit × DU), SmL h l = SmL h (l.filter f) + SmL h (l.filter fun p => !f p)
  | [] => rfl
  | p :: l => by
    have ih := SmL_split h f l
    cases hf : f p <;> simp [SmL, List.filter_cons, hf, ih] <;> omega
theorem find_one {l : List (Lit × DU)} {k : Lit} (hd : l.Pairwise fun p q => p.1 ≠ q.1) (hk : WideAt.IsKeyLit k) (h : Lit → Int) :
    SmL h (l.filter fun p => p.1.sameKey k) = coef ((DataW.map l).atKey k (.lit (.int .i64 0))) * h k := by
  induction l with
  | nil => simp [SmL, DataW.atKey, coef]
  | cons p l ih =>
    rw [List.pairwise_cons] at hd
    cases hs : p.1.sameKey k with
    | true =>
      have e := WideAt.sameKey_eq hs
      have hn : l.filter (fun p => p.1.sameKey k) = [] := by
        rw [List.filter_eq_nil_iff]
        intro q hq hqs
        exact hd.1 q hq (by rw [e, WideAt.sameKey_eq hqs])
      rw [List.filter_cons, if_pos hs, hn]
      simp [SmL, DataW.atKey, List.find?_cons, e, WideAt.sameKey_self hk]
    | false =>
      rw [List.filter_cons, if_neg (by rw [hs]; decide), ih hd.2]
      simp [DataW.atKey, List.find?_cons, hs]
theorem SmD_del {D : DU} (hD : Tidy D) {k : Lit} (hk : WideAt.IsKeyLit k) (h : Lit → Int) : SmD D h = SmD (D.del k) h + coef (D.atKey k (.lit (.int .i64 0))) * h k := by
  obtain ⟨es, rfl, hd⟩ := hD
  have := SmL_split h (fun p => p.1.sameKey k) es
  rw [find_one hd hk] at this
  show SmL h es = SmL h (es.filter fun p => !p.1.sameKey k) + _
  omega
theorem SmD_put {D : DU} (hD : Tidy D) {k : Lit} (h : Lit → Int) (d : DU) : SmD (D.put k d) h = SmD (D.del k) h + coef d * h k := by
  obtain ⟨es, rfl, hd⟩ := hD
  show SmL h (DataW.insert (k, d) (es.filter fun p => !p.1.sameKey k)) = SmL h (es.filter fun p => !p.1.sameKey k) + _
  rw [SmL_perm h (WideShapes.insert_perm _ _)]
  exact Int.add_comm _ _
theorem del_put {D : DU} (hD : Tidy D) {k : Lit} (hk : WideAt.IsKeyLit k) (h : Lit → Int) (d : DU) : SmD ((D.put k d).del k) h = SmD (D.del k) h := by
  have a := SmD_del (hD.put hk d) hk h
  rw [SmD_put hD h d, atKey_put_same hD.isMap hk] at a
  omega

/-! ### what is left of a map while it is ranged over -/
def SmK (D : DU) (left : Lit → Bool) (h : Lit → Int) : Int := match D with
  | .map es => SmL h (es.filter fun p => left p.1)
  | _ => 0
theorem SmK_all {D : DU} (hD : Tidy D) (hk : ∀ l, has D l = true → WideAt.IsKeyLit l) (hm : ∀ es, D = .map es → ∀ p ∈ es, WideAt.IsKeyLit p.1) (h : Lit → Int) : SmK D (has D) h = SmD D h := by
  obtain ⟨es, rfl, hd⟩ := hD
  show SmL h (es.filter fun p => has (.map es) p.1) = SmL h es
  rw [List.filter_eq_self.2]
  intro p hp
  exact List.any_eq_true.2 ⟨p, hp, WideAt.sameKey_self (hm es rfl p hp)⟩
theorem SmK_none {D : DU} {left : Lit → Bool} (hl : ∀ l, left l = false) (h : Lit → Int) : SmK D left h = 0 := by
  cases D <;> try rfl
  rename_i es
  show SmL h (es.filter fun p => left p.1) = 0
  rw [List.filter_eq_nil_iff.2 (fun p _ => by rw [hl]; decide)]
  rfl
theorem SmK_step {D : DU} (hD : Tidy D) {left : Lit → Bool} {k : Lit} (hk : WideAt.IsKeyLit k) (hl : left k = true) (h : Lit → Int) :
    SmK D left h = coef (D.atKey k (.lit (.int .i64 0))) * h k + SmK D (fun z => left z && !z.sameKey k) h := by
  obtain ⟨es, rfl, hd⟩ := hD
  show SmL h (es.filter fun p => left p.1) = _ + SmL h (es.filter fun p => left p.1 && !p.1.sameKey k)
  rw [SmL_split h (fun p => p.1.sameKey k) (es.filter fun p => left p.1), List.filter_filter, List.filter_filter, ← find_one hd hk]
  congr 1
  · congr 1
    apply List.filter_congr
    intro p _
    cases hs : p.1.sameKey k with
    | true => rw [WideAt.sameKey_eq hs, hl]; rfl
    | false => simp
  · congr 1
    apply List.filter_congr
    intro p _
    rw [Bool.and_comm]

end Go.Proofs.Ytllmhicmikpfeaa

namespace Go.Proofs.Ytllmhicmikpfeaa
set_option linter.all false
set_option maxRecDepth 100000
open Go.RowKit Go.Maps Go.WideMaps

abbrev Pl := List (List Int × Int)
/-- the sum over the entries -/
def Ev (P : Pl) (g : List Int → Int) : Int := match P with
  | [] => 0
  | p :: l => p.2 * g p.1 + Ev l g
theorem Ev_append (P Q : Pl) (g : List Int → Int) : Ev (P ++ Q) g = Ev P g + Ev Q g := by
  induction P with
  | nil => simp [Ev]
  | cons p l ih => simp only [List.cons_append, Ev, ih]; omega
def M64 : Int := 18446744073709551616
/-- alike but for multiples of 2^64 -/
def Cg (a b : Int) : Prop := ∃ m, a = b + M64 * m
theorem Cg.refl (a : Int) : Cg a a := ⟨0, by simp⟩
theorem Cg.of (a b : Int) (h : a = b) : Cg a b := h ▸ Cg.refl a
theorem Cg.symm {a b : Int} (h : Cg a b) : Cg b a := by
  obtain ⟨m, rfl⟩ := h
  exact ⟨-m, by rw [Int.mul_neg]; omega⟩
theorem Cg.trans {a b c : Int} (h : Cg a b) (h' : Cg b c) : Cg a c := by
  obtain ⟨m, rfl⟩ := h
  obtain ⟨m', rfl⟩ := h'
  exact ⟨m' + m, by rw [Int.mul_add]; omega⟩
theorem Cg.add {a b c e : Int} (h : Cg a b) (h' : Cg c e) : Cg (a + c) (b + e) := by
  obtain ⟨m, rfl⟩ := h
  obtain ⟨m', rfl⟩ := h'
  exact ⟨m + m', by rw [Int.mul_add]; omega⟩
theorem Cg.mul {a b c e : Int} (h : Cg a b) (h' : Cg c e) : Cg (a * c) (b * e) := by
  obtain ⟨m, rfl⟩ := h
  obtain ⟨m', rfl⟩ := h'
  refine ⟨m * e + b * m' + M64 * m * m', ?_⟩
  simp only [Int.add_mul, Int.mul_add, Int.mul_assoc, Int.mul_left_comm, Int.mul_comm]
  omega
theorem Cg.neg {a b : Int} (h : Cg a b) : Cg (-a) (-b) := by
  obtain ⟨m, rfl⟩ := h
  exact ⟨-m, by rw [Int.mul_neg]; omega⟩

open Classical in
noncomputable def unkl (l : Lit) : List Int := if h : ∃ e, l = kl e ∧ K7 1000000 e then h.choose else []
theorem K7.mono {d d' : Nat} {e : List Int} (h : K7 d e) (hd : d ≤ d') : K7 d' e := ⟨h.1, fun x hx => by have := h.2 x hx; omega⟩
theorem unkl_kl {e : List Int} {d : Nat} (h : K7 d e) (hd : d ≤ 1000000) : unkl (kl e) = e := by
  have hx : ∃ e', kl e = kl e' ∧ K7 1000000 e' := ⟨e, rfl, h.mono hd⟩
  unfold unkl
  rw [dif_pos hx]
  exact (kl_inj (h.mono hd) (Nat.le_refl _) hx.choose_spec.2 (Nat.le_refl _) hx.choose_spec.1).symm
/-- a map's datum adds up as a list does; its keys are from 0 to d -/
structure PolM (d : Nat) (D : DU) (P : Pl) : Prop where
  tidy : Tidy D
  keys : ∀ l, has D l = true → ∃ e, l = kl e ∧ K7 d e
  sum : ∀ g : List Int → Int, Cg (SmD D fun l => g (unkl l)) (Ev P g)
  nz : ∀ l, has D l = true → ∀ z, D.atKey l z ≠ .lit (.int .i64 0)
theorem PolM.empty (d : Nat) : PolM d (.map []) [] := ⟨tidy_empty, fun l h => by simp [has] at h, fun g => Cg.refl _, fun l h => by simp [has] at h⟩
theorem PolM.mono {d d' : Nat} {D : DU} {P : Pl} (h : PolM d D P) (hd : d ≤ d') : PolM d' D P :=
  ⟨h.tidy, fun l hl => by obtain ⟨e, h1, h2⟩ := h.keys l hl; exact ⟨e, h1, h2.mono hd⟩, h.sum, h.nz⟩
theorem kl_lit (e : List Int) : WideAt.IsKeyLit (kl e) := trivial
/-- a number added at a key -/
def addD (D : DU) (k : Lit) (s : Int) : DU := if s = 0 then (D.put k (.lit (.int .i64 s))).del k else D.put k (.lit (.int .i64 s))
theorem PolM.add {d : Nat} {D : DU} {P : Pl} (h : PolM d D P) (hd : d ≤ 1000000) {e : List Int} (he : K7 d e) {c0 c s : Int}
    (hat : D.atKey (kl e) (.lit (.int .i64 0)) = .lit (.int .i64 c0)) (hs : Cg s (c0 + c)) : PolM d (addD D (kl e) s) (P ++ [(e, c)]) := by
  have ht := h.tidy.put (kl_lit e) (.lit (.int .i64 s))
  have hput : ∀ l, has (D.put (kl e) (.lit (.int .i64 s))) l = true → ∃ e', l = kl e' ∧ K7 d e' := fun l hl => by
    by_cases hk : l = kl e
    · exact ⟨e, hk, he⟩
    · rw [has_put_other hk] at hl
      exact h.keys l hl
  have hsum : ∀ g : List Int → Int, Cg (SmD (addD D (kl e) s) fun l => g (unkl l)) (Ev (P ++ [(e, c)]) g) := fun g => by
    have a := SmD_del h.tidy (kl_lit e) (fun l => g (unkl l))
    have b := SmD_put h.tidy (k := kl e) (fun l => g (unkl l)) (.lit (.int .i64 s))
    have b2 := del_put h.tidy (kl_lit e) (fun l => g (unkl l)) (.lit (.int .i64 s))
    have e1 : (SmD (addD D (kl e) s) fun l => g (unkl l)) = (SmD (D.del (kl e)) fun l => g (unkl l)) + s * g e := by
      unfold addD
      split
      · rename_i h0
        rw [b2, h0]; simp
      · rw [b]; simp only [coef, unkl_kl he hd]
    rw [e1, Ev_append]
    rw [hat] at a
    simp only [coef, unkl_kl he hd] at a
    have hsm := h.sum g
    rw [a] at hsm
    have h1 : Cg (s * g e) (c0 * g e + c * g e) := by rw [← Int.add_mul]; exact hs.mul (Cg.refl _)
    have h2 := (Cg.refl (SmD (D.del (kl e)) fun l => g (unkl l))).add h1
    have h3 := hsm.add (Cg.refl (c * g e))
    refine h2.trans ?_
    rw [← Int.add_assoc]
    simpa [Ev] using h3
  unfold addD at hsum ⊢
  split at hsum
  · rename_i h0
    rw [if_pos h0]
    refine ⟨ht.del _, fun l hl => ?_, hsum, fun l hl z => ?_⟩
    · by_cases hk : l = kl e
      · exact ⟨e, hk, he⟩
      · rw [has_del_other hk] at hl
        exact hput l hl
    · by_cases hk : l = kl e
      · rw [hk, has_del_same] at hl; cases hl
      · rw [has_del_other hk, has_put_other hk] at hl
        rw [atKey_del_other hk, atKey_put_other hk]
        exact h.nz l hl z
  · rename_i h0
    rw [if_neg h0]
    refine ⟨ht, hput, hsum, fun l hl z => ?_⟩
    by_cases hk : l = kl e
    · rw [hk, atKey_put_same h.tidy.isMap (kl_lit e)]
      intro e2
      injection e2 with e2
      injection e2 with _ e2
      exact h0 e2
    · rw [has_put_other hk] at hl
      rw [atKey_put_other hk]
      exact h.nz l hl z

end Go.Proofs.Ytllmhicmikpfeaa
