/-
  append on an owned slice, once more: the block of what comes back is the old one, or new.
  l1Ints, l7Copy, l7Inverse, l7Top.
  The reference's reduction, walked.
  The law's helpers on slices of slices of ints: compared, written over, read again.
  Many rows put behind others.
  slices.SortFunc of rows by their first places with a number.
-/
import Derived.Test.YtpfefjdefopccaaJ2
import Derived.Test.YtpfefjdefopccaaJ3
import Derived.Test.YtpfefjdefopccaaJ1
import Derived.Test.YtpfefjdefopccaaShelf
namespace Go.Proofs.Ytpfefjdefopccaa
set_option linter.all false
open Go.RowKit

theorem run_append_where {P : Program} (w : World) (t ty e : TypeId) (i : TypeInfo) (z : Value) (bytes : Nat) (ht : P.underlying t = some (.slice e)) (hi : P.info? e = some i) (hz : i.zero = some z)
    (hsize : i.size = 1) (hby : i.bytes = bytes) (hzs : z.cells.size = 1)
    (lo hi' : Nat) (v : Value) (n : Nat) (f : Nat → Value) (hown : OwnF w lo hi' e v n f)
    (u : Value) (m : Nat) (g : Nat → Value) (hx : Rd w u m g) (h1 : ∀ j, j < m → (g j).oneCell' = true) (h63 : n + m ≤ maxLen) (hbytes : (n + m) * bytes ≤ 140737488355328) {v' : Value} {w' : World}
    (hr : (Builtin.append_ #[t, t] ty #[v, u]).run P w = .ok v' w') : ∀ b, v'.ownBlock = some b → v.ownBlock = some b ∨ w.heap.size ≤ b := by
  obtain ⟨q, c, rfl, ⟨hmc, hcm⟩, hxc⟩ := hx
  have hsm : n + m ≤ 9223372036854775807 := by unfold maxLen at h63; omega
  by_cases hm : m = 0
  · subst hm
    obtain ⟨p, cap, rfl, hnc, _, _⟩ := hown.shape
    rw [run_append_none w t ty e i ht hi p q n cap c hnc] at hr
    injection hr with e1 e2
    subst e1
    exact fun b hb => .inl hb
  · obtain ⟨b, off, rfl, hc⟩ := hxc (by omega)
    have hnews : ∀ (j : Nat) (v : Value), ((List.range m).map g)[j]? = some v → w.cell? ((⟨b, off, none⟩ : Addr).add j) = some v := fun j x hx => by
      have hj : j < m := by
        rcases Nat.lt_or_ge j m with h | h
        · exact h
        · rw [List.getElem?_eq_none (by simpa using h)] at hx; cases hx
      simp [hj] at hx
      subst hx
      have hadd : (⟨b, off, none⟩ : Addr).add j = ⟨b, off + j, none⟩ := by unfold Addr.add; split <;> simp_all
      rw [hadd]
      exact hc j hj
    obtain ⟨xs, ho, hf⟩ := hown
    rcases ho.1.2 with ⟨rfl, rfl⟩ | ⟨gg, cap, cur, rfl, hbg, hg, hnc, hcm2, hcs, htake⟩
    · have hr2 := run_append_nil (P := P) w t ty e i z ht hi hz ⟨b, off, none⟩ m c ((List.range m).map g) (by simp [hsize]) hnews (by omega) (by omega) (by rw [hby]; simp only [Nat.zero_add] at hbytes; omega)
      rw [hr2] at hr
      injection hr with e1 e2
      subst e1
      intro b hb
      simp [Value.ownBlock] at hb
      exact .inr (by omega)
    · by_cases hroom : n + m ≤ cap
      · have hr2 := run_append_room (P := P) w t ty e i ht hi gg n cap cur hg ⟨b, off, none⟩ m c ((List.range m).map g) (by simp [hsize]) hnews (fun x hx => by
            simp only [List.mem_map, List.mem_range] at hx
            obtain ⟨j, hj, rfl⟩ := hx
            exact h1 j hj) hroom (by simp [hsize, hcs]; omega)
        rw [hr2] at hr
        injection hr with e1 e2
        subst e1
        exact fun b hb => .inl hb
      · have hr2 := run_append_grow (P := P) w t ty e i z ht hi hz ⟨gg, 0, none⟩ n cap xs (by rw [ho.len, hsize]) (ho.1.cells (g := gg) rfl) ⟨b, off, none⟩ m c ((List.range m).map g) (by simp [hsize]) hnews (by omega) (by omega) (growslice_fits (by omega) (by rw [hby]; exact hbytes))
        rw [hr2] at hr
        injection hr with e1 e2
        subst e1
        intro b hb
        simp [Value.ownBlock] at hb
        exact .inr (by omega)

/-- as wpList_append_F, with one fact more: where the block lies -/
theorem wpList_append_G {P : Program} {w : World} {ops : Array Oper} {rest : List Oper} {o : Oper} {a : Act} {Q : Exit → Act → World → Prop} (hgd : o.guard = none) (s x : Operand) (t : TypeId)
    (ho : o.op = .call { callee := .builtin .append, args := #[s, x], argTypes := #[t, t] })
    (e : TypeId) (z : Value) (bytes : Nat) (ht : P.underlying t = some (.slice e)) (hinfo : (P.info? e).map (fun i => (i.zero, i.size, i.bytes)) = some (some z, 1, bytes)) (hzs : z.cells.size = 1)
    (lo hi' : Nat) (v : Value) (n : Nat) (f : Nat → Value) (hs : a.eval s = v) (hown : OwnF w lo hi' e v n f) (hlo : lo ≤ w.heap.size) (hhi : hi' ≤ w.heap.size)
    (u : Value) (m : Nat) (g : Nat → Value) (hxu : a.eval x = u) (hx : Rd w u m g) (h1 : ∀ j, j < m → (g j).oneCell' = true) (h63 : n + m ≤ maxLen) (hbytes : (n + m) * bytes ≤ 140737488355328)
    (h : ∀ v' w', OwnF w' lo w'.heap.size e v' (n + m) (fun j => if j < n then f j else g (j - n)) → w.grownBy w' v.ownBlock → (∀ b, v'.ownBlock = some b → v.ownBlock = some b ∨ w.heap.size ≤ b) → wpList P ops Q rest (a.put o.dst v') w') :
    wpList P ops Q (o :: rest) a w := by
  refine wpList_plain hgd fun K hK' => ?_
  obtain ⟨i, hi, hz, hsz, hby⟩ := info_parts hinfo
  obtain ⟨v', w', hr, h2, h3⟩ := run_append_F (P := P) w t o.type e i z bytes ht hi hz hsz hby hzs lo hi' v n f hown hlo hhi u m g hx h1 h63 hbytes
  have h4 := run_append_where (P := P) w t o.type e i z bytes ht hi hz hsz hby hzs lo hi' v n f hown u m g hx h1 h63 hbytes hr
  unfold Oper.wp
  simp [execOp, ho, resolve, invoke, builtin, hs, hxu, hr, Result.andThen]
  exact hK' _ _ (h v' w' h2 h3 h4)

theorem Frm.of_drew {lo hi : Nat} {w w' : World} (h : Frm lo hi w.drew w') : Frm lo hi w w' := ⟨h.os, h.tape, h.output, h.size, h.block⟩
theorem below_of_drew {B : Nat} {w w' : World} (h : Below B w.drew w') : Below B w w' := ⟨h.os, h.tape, h.output, h.size, h.block⟩
/-- behind an append: a list of lists whose blocks are others stays -/
theorem OwnII.grown {Ts Ti : TypeId} {w w' : World} {lo hi : Nat} {v u : Value} {rows : List (List Int)} (h : OwnII Ts Ti w lo hi v rows) (hg : w.grownBy w' u.ownBlock) (hne : ∀ b, u.ownBlock = some b → b < lo ∨ hi ≤ b) : OwnII Ts Ti w' lo hi v rows :=
  h.keep fun k h1 h2 h3 => hg.block k h3 fun e => by have := hne k e.symm; omega

end Go.Proofs.Ytpfefjdefopccaa

namespace Go.Proofs.Ytpfefjdefopccaa
set_option linter.all false
open Go.RowKit

/-- the argument's box, and a block for the result, whatever it holds -/
theorem keep5 {w W W' : World} {a0 a1 a2 a3 : Addr} {v0 v1 v2 v3 : Value} {b : Nat} {T : TypeId} (hb : Below W.heap.size W W')
    (h : ((W.cell? a0 = some v0 ∧ W.cell? a1 = some v1 ∧ W.cell? a2 = some v2 ∧ W.cell? a3 = some v3) ∧ ∃ y0 y1 y2 y3, W.heap[b]? = some (.cells #[y0, y1, y2, y3] T (0, 0))) ∧ Below w.heap.size w W) :
    ((W'.cell? a0 = some v0 ∧ W'.cell? a1 = some v1 ∧ W'.cell? a2 = some v2 ∧ W'.cell? a3 = some v3) ∧ ∃ y0 y1 y2 y3, W'.heap[b]? = some (.cells #[y0, y1, y2, y3] T (0, 0))) ∧ Below w.heap.size w W' := by
  obtain ⟨⟨⟨h0, h1, h2, h3⟩, y0, y1, y2, y3, hy⟩, hB⟩ := h
  exact ⟨⟨⟨cell_below hb h0, cell_below hb h1, cell_below hb h2, cell_below hb h3⟩, y0, y1, y2, y3, blk_later hy hb⟩, hB.trans (hb.mono hB.size)⟩
theorem keep5_gen {w W W' : World} {b1 o0 o1 o2 o3 : Nat} {v0 v1 v2 v3 z0 z1 z2 z3 : Value} {b : Nat} {T : TypeId} (hh : W'.heap[b1]? = W.heap[b1]?) (hy : W'.heap[b]? = some (.cells #[z0, z1, z2, z3] T (0, 0))) (hB : Below w.heap.size w W')
    (h : W.cell? ⟨b1, o0, none⟩ = some v0 ∧ W.cell? ⟨b1, o1, none⟩ = some v1 ∧ W.cell? ⟨b1, o2, none⟩ = some v2 ∧ W.cell? ⟨b1, o3, none⟩ = some v3) :
    ((W'.cell? ⟨b1, o0, none⟩ = some v0 ∧ W'.cell? ⟨b1, o1, none⟩ = some v1 ∧ W'.cell? ⟨b1, o2, none⟩ = some v2 ∧ W'.cell? ⟨b1, o3, none⟩ = some v3) ∧ ∃ y0 y1 y2 y3, W'.heap[b]? = some (.cells #[y0, y1, y2, y3] T (0, 0))) ∧ Below w.heap.size w W' := by
  obtain ⟨h0, h1, h2, h3⟩ := h
  refine ⟨⟨⟨?_, ?_, ?_, ?_⟩, z0, z1, z2, z3, hy⟩, hB⟩
  · rw [World.cell?_of_block (w := W) hh]; exact h0
  · rw [World.cell?_of_block (w := W) hh]; exact h1
  · rw [World.cell?_of_block (w := W) hh]; exact h2
  · rw [World.cell?_of_block (w := W) hh]; exact h3
theorem keep5_set {w W : World} {b1 o0 o1 o2 o3 : Nat} {v0 v1 v2 v3 : Value} {b : Nat} {T : TypeId} (hne : b1 ≠ b) (hbw : w.heap.size ≤ b) (x0 x1 x2 x3 : Value)
    (h : ((W.cell? ⟨b1, o0, none⟩ = some v0 ∧ W.cell? ⟨b1, o1, none⟩ = some v1 ∧ W.cell? ⟨b1, o2, none⟩ = some v2 ∧ W.cell? ⟨b1, o3, none⟩ = some v3) ∧ ∃ y0 y1 y2 y3, W.heap[b]? = some (.cells #[y0, y1, y2, y3] T (0, 0))) ∧ Below w.heap.size w W) :
    ((((((W.setCell ⟨b, 0, none⟩ x0).setCell ⟨b, 1, none⟩ x1).setCell ⟨b, 2, none⟩ x2).setCell ⟨b, 3, none⟩ x3).cell? ⟨b1, o0, none⟩ = some v0 ∧ ((((W.setCell ⟨b, 0, none⟩ x0).setCell ⟨b, 1, none⟩ x1).setCell ⟨b, 2, none⟩ x2).setCell ⟨b, 3, none⟩ x3).cell? ⟨b1, o1, none⟩ = some v1 ∧
      ((((W.setCell ⟨b, 0, none⟩ x0).setCell ⟨b, 1, none⟩ x1).setCell ⟨b, 2, none⟩ x2).setCell ⟨b, 3, none⟩ x3).cell? ⟨b1, o2, none⟩ = some v2 ∧ ((((W.setCell ⟨b, 0, none⟩ x0).setCell ⟨b, 1, none⟩ x1).setCell ⟨b, 2, none⟩ x2).setCell ⟨b, 3, none⟩ x3).cell? ⟨b1, o3, none⟩ = some v3) ∧
      ∃ y0 y1 y2 y3, ((((W.setCell ⟨b, 0, none⟩ x0).setCell ⟨b, 1, none⟩ x1).setCell ⟨b, 2, none⟩ x2).setCell ⟨b, 3, none⟩ x3).heap[b]? = some (.cells #[y0, y1, y2, y3] T (0, 0))) ∧
      Below w.heap.size w ((((W.setCell ⟨b, 0, none⟩ x0).setCell ⟨b, 1, none⟩ x1).setCell ⟨b, 2, none⟩ x2).setCell ⟨b, 3, none⟩ x3) := by
  obtain ⟨⟨hc, y0, y1, y2, y3, hy⟩, hB⟩ := h
  have hh : ((((W.setCell ⟨b, 0, none⟩ x0).setCell ⟨b, 1, none⟩ x1).setCell ⟨b, 2, none⟩ x2).setCell ⟨b, 3, none⟩ x3).heap[b1]? = W.heap[b1]? := by
    rw [Below.heap_setCell _ _ _ _ (show b1 ≠ (⟨b, 3, none⟩ : Addr).block from hne), Below.heap_setCell _ _ _ _ (show b1 ≠ (⟨b, 2, none⟩ : Addr).block from hne), Below.heap_setCell _ _ _ _ (show b1 ≠ (⟨b, 1, none⟩ : Addr).block from hne), Below.heap_setCell _ _ _ _ (show b1 ≠ (⟨b, 0, none⟩ : Addr).block from hne)]
  have hy4 := set4_all hy x0 x1 x2 x3
  have hB4 := below_set4 hB hbw x0 x1 x2 x3
  exact keep5_gen hh hy4 hB4 hc
theorem s5_blk {w W : World} {a0 a1 a2 a3 : Addr} {v0 v1 v2 v3 : Value} {b : Nat} {T : TypeId}
    (h : ((W.cell? a0 = some v0 ∧ W.cell? a1 = some v1 ∧ W.cell? a2 = some v2 ∧ W.cell? a3 = some v3) ∧ ∃ y0 y1 y2 y3, W.heap[b]? = some (.cells #[y0, y1, y2, y3] T (0, 0))) ∧ Below w.heap.size w W) :
    ∃ y0 y1 y2 y3, W.heap[b]? = some (.cells #[y0, y1, y2, y3] T (0, 0)) := h.1.2

/-- the box of a matrix argument and the result's cell -/
theorem box2_start (w : World) (T T2 : TypeId) (P R C : Int) (d : Value) :
    ((w.alloc (.cells #[.int .i64 P, .int .i64 R, .int .i64 C, d] T)).alloc (.cells #[.int .i64 0, .int .i64 0, .int .i64 0, .slice none 0 0] T2)).heap[w.heap.size]? = some (.cells #[.int .i64 P, .int .i64 R, .int .i64 C, d] T (0, 0)) ∧
    ((w.alloc (.cells #[.int .i64 P, .int .i64 R, .int .i64 C, d] T)).alloc (.cells #[.int .i64 0, .int .i64 0, .int .i64 0, .slice none 0 0] T2)).heap[w.heap.size + 1]? = some (.cells #[.int .i64 0, .int .i64 0, .int .i64 0, .slice none 0 0] T2 (0, 0)) := by
  refine ⟨?_, heap_alloc_at _ _ (by simp)⟩
  rw [heap_alloc_low _ _ (by simp)]; exact heap_alloc_top _ _

end Go.Proofs.Ytpfefjdefopccaa

namespace Go.Proofs.Ytpfefjdefopccaa
set_option linter.all false
open Go.RowKit

/-- the number at row i, column c of what lies flat -/
def mf (C : Nat) (h : Nat → Int) (i c : Nat) : Int := h (i * C + c)

/-- the argument's box, the result's cell, the box of out, and what out holds -/
def RS (w : World) (T Ti : TypeId) (P : Int) (R C : Nat) (d : Value) (q : Nat) (p : Option Addr) (k N : Nat) (h : Nat → Int) (wr : World) : Prop :=
  wr.heap[w.heap.size]? = some (.cells #[.int .i64 P, .int .i64 (R : Int), .int .i64 (C : Int), d] T (0, 0)) ∧
  wr.heap[w.heap.size + 1]? = some (.cells #[.int .i64 0, .int .i64 0, .int .i64 0, .slice none 0 0] T (0, 0)) ∧
  wr.heap[q]? = some (.cells #[.int .i64 P, .int .i64 (R : Int), .int .i64 (C : Int), .slice p N k] T (0, 0)) ∧
  OwnF wr (w.heap.size + 2) q Ti (.slice p N k) N (fun t => .int .i64 (h t)) ∧ Below w.heap.size w wr ∧ w.heap.size + 2 ≤ q
namespace RS
variable {w wr wx : World} {T Ti : TypeId} {P : Int} {R C : Nat} {d : Value} {q : Nat} {p : Option Addr} {k N : Nat} {h : Nat → Int}
theorem keep (a : RS w T Ti P R C d q p k N h wr) (hb : ∀ b, b < q + 1 → b < wr.heap.size → wx.heap[b]? = wr.heap[b]?) (hB : Below w.heap.size w wx) : RS w T Ti P R C d q p k N h wx := by
  obtain ⟨a1, a2, a3, a4, a5, a6⟩ := a
  refine ⟨?_, ?_, ?_, a4.keep fun b h1 h2 h3 => hb b (by omega) h3, hB, a6⟩
  · rw [hb _ (by omega) (blk_lt a1)]; exact a1
  · rw [hb _ (by omega) (blk_lt a2)]; exact a2
  · rw [hb _ (by omega) (blk_lt a3)]; exact a3
theorem later (a : RS w T Ti P R C d q p k N h wr) (hb : Below wr.heap.size wr wx) : RS w T Ti P R C d q p k N h wx :=
  a.keep (fun b _ hb2 => hb.block b hb2) (a.2.2.2.2.1.trans (hb.mono a.2.2.2.2.1.size))
theorem congr {h' : Nat → Int} (a : RS w T Ti P R C d q p k N h wr) (e : ∀ t, t < N → h t = h' t) : RS w T Ti P R C d q p k N h' wr :=
  ⟨a.1, a.2.1, a.2.2.1, a.2.2.2.1.congr fun t ht => by rw [e t ht], a.2.2.2.2.1, a.2.2.2.2.2⟩
theorem set {g : Nat} (a : RS w T Ti P R C d q (some ⟨g, 0, none⟩) k N h wr) (h0 : 0 < N) (t : Nat) (x : Int) : RS w T Ti P R C d q (some ⟨g, 0, none⟩) k N (fun j => if j = t then x else h j) (wr.setCell ⟨g, t, none⟩ (.int .i64 x)) := by
  obtain ⟨a1, a2, a3, a4, a5, a6⟩ := a
  obtain ⟨g', e, h1, h2, h3⟩ := a4.at_ h0
  injection e with e
  injection e with e
  subst e
  refine ⟨?_, ?_, ?_, (a4.set t _).congr fun j _ => ?_, a5.setCell (by show w.heap.size ≤ g; omega) _, a6⟩
  · rw [Below.heap_setCell _ _ _ _ (by show _ ≠ g; omega)]; exact a1
  · rw [Below.heap_setCell _ _ _ _ (by show _ ≠ g; omega)]; exact a2
  · rw [Below.heap_setCell _ _ _ _ (by show _ ≠ g; omega)]; exact a3
  · by_cases e : j = t <;> simp [e]
theorem ints (a : RS w T Ti P R C d q p k N h wr) : Ints wr (.slice p N k) ((List.range N).map h) := by
  have e : ((List.range N).map h).length = N := by simp
  have : OwnI Ti wr (w.heap.size + 2) q (.slice p N k) ((List.range N).map h) := by
    refine OwnF.ints ?_
    rw [e]
    exact a.2.2.2.1.congr fun t ht => by simp [iv, List.getD_eq_getElem?_getD, ht]
  exact this.ints
end RS

theorem RS.cell {w wr : World} {T Ti : TypeId} {P : Int} {R C : Nat} {d : Value} {q g k N t : Nat} {h : Nat → Int} (a : RS w T Ti P R C d q (some ⟨g, 0, none⟩) k N h wr) (ht : t < N) :
    wr.cell? ⟨g, t, none⟩ = some (.int .i64 (h t)) ∧ wr.frozen? ⟨g, t, none⟩ = false := ⟨a.2.2.2.1.cell ht, a.2.2.2.1.frozen t⟩
/-- .. and the columns so far -/
def RT (w : World) (T Ti : TypeId) (P : Int) (R C : Nat) (d : Value) (q : Nat) (p : Option Addr) (k N hi : Nat) (v : Value) (n : Nat) (qf : Nat → Nat) (h : Nat → Int) (wr : World) : Prop :=
  RS w T Ti P R C d q p k N h wr ∧ OwnF wr (q + 1) hi Ti v n (fun k => .int .i64 (qf k : Int)) ∧ hi ≤ wr.heap.size
namespace RT
variable {w wr wx : World} {T Ti : TypeId} {P : Int} {R C : Nat} {d v : Value} {q n hi : Nat} {p : Option Addr} {k N : Nat} {h : Nat → Int} {qf : Nat → Nat}
theorem later (a : RT w T Ti P R C d q p k N hi v n qf h wr) (hb : Below wr.heap.size wr wx) : RT w T Ti P R C d q p k N hi v n qf h wx :=
  ⟨a.1.later hb, a.2.1.below hb, Nat.le_trans a.2.2 hb.size⟩
theorem set {g : Nat} (a : RT w T Ti P R C d q (some ⟨g, 0, none⟩) k N hi v n qf h wr) (h0 : 0 < N) (t : Nat) (x : Int) :
    RT w T Ti P R C d q (some ⟨g, 0, none⟩) k N hi v n qf (fun j => if j = t then x else h j) (wr.setCell ⟨g, t, none⟩ (.int .i64 x)) := by
  obtain ⟨g', e, h1, h2, h3⟩ := a.1.2.2.2.1.at_ h0
  injection e with e
  injection e with e
  subst e
  exact ⟨a.1.set h0 t x, a.2.1.setCell (.inl (by show g < _; omega)) _, by rw [size_setCell]; exact a.2.2⟩
end RT
theorem flat_inj {C i c i' c' : Nat} (hc : c < C) (hc' : c' < C) : i' * C + c' = i * C + c ↔ i' = i ∧ c' = c := by
  constructor
  · intro e
    have a := div_at (k := i) hc
    have b := div_at (k := i') hc'
    rw [e] at b
    exact ⟨b.1.symm.trans a.1, b.2.symm.trans a.2⟩
  · rintro ⟨rfl, rfl⟩; rfl
theorem mf_set {C i0 c0 i c : Nat} {h : Nat → Int} {x : Int} (h0 : c0 < C) (hc : c < C) : mf C (fun j => if j = i0 * C + c0 then x else h j) i c = if i = i0 ∧ c = c0 then x else mf C h i c := by
  unfold mf
  dsimp only
  by_cases e : i = i0 ∧ c = c0
  · rw [if_pos ((flat_inj h0 hc).2 e), if_pos e]
  · rw [if_neg fun e2 => e ((flat_inj h0 hc).1 e2), if_neg e]

/-- six cells that the regions read -/
theorem keep6 {W W' : World} {a0 a1 a2 a3 a4 a5 : Addr} {v0 v1 v2 v3 v4 v5 : Value} (hb : Below W.heap.size W W')
    (h : W.cell? a0 = some v0 ∧ W.cell? a1 = some v1 ∧ W.cell? a2 = some v2 ∧ W.cell? a3 = some v3 ∧ W.cell? a4 = some v4 ∧ W.cell? a5 = some v5) :
    W'.cell? a0 = some v0 ∧ W'.cell? a1 = some v1 ∧ W'.cell? a2 = some v2 ∧ W'.cell? a3 = some v3 ∧ W'.cell? a4 = some v4 ∧ W'.cell? a5 = some v5 :=
  ⟨cell_below hb h.1, cell_below hb h.2.1, cell_below hb h.2.2.1, cell_below hb h.2.2.2.1, cell_below hb h.2.2.2.2.1, cell_below hb h.2.2.2.2.2⟩
theorem keep6_set {W : World} {b1 b2 o0 o1 o2 o3 o4 o5 g t : Nat} {x : Value} {v0 v1 v2 v3 v4 v5 : Value} (h1 : b1 ≠ g) (h2 : b2 ≠ g)
    (h : W.cell? ⟨b1, o0, none⟩ = some v0 ∧ W.cell? ⟨b1, o1, none⟩ = some v1 ∧ W.cell? ⟨b2, o2, none⟩ = some v2 ∧ W.cell? ⟨b2, o3, none⟩ = some v3 ∧ W.cell? ⟨b2, o4, none⟩ = some v4 ∧ W.cell? ⟨b2, o5, none⟩ = some v5) :
    (W.setCell ⟨g, t, none⟩ x).cell? ⟨b1, o0, none⟩ = some v0 ∧ (W.setCell ⟨g, t, none⟩ x).cell? ⟨b1, o1, none⟩ = some v1 ∧ (W.setCell ⟨g, t, none⟩ x).cell? ⟨b2, o2, none⟩ = some v2 ∧
    (W.setCell ⟨g, t, none⟩ x).cell? ⟨b2, o3, none⟩ = some v3 ∧ (W.setCell ⟨g, t, none⟩ x).cell? ⟨b2, o4, none⟩ = some v4 ∧ (W.setCell ⟨g, t, none⟩ x).cell? ⟨b2, o5, none⟩ = some v5 := by
  have e1 : (W.setCell ⟨g, t, none⟩ x).heap[b1]? = W.heap[b1]? := Below.heap_setCell _ _ _ _ h1
  have e2 : (W.setCell ⟨g, t, none⟩ x).heap[b2]? = W.heap[b2]? := Below.heap_setCell _ _ _ _ h2
  obtain ⟨c0, c1, c2, c3, c4, c5⟩ := h
  refine ⟨?_, ?_, ?_, ?_, ?_, ?_⟩
  · rw [World.cell?_of_block (w := W) e1]; exact c0
  · rw [World.cell?_of_block (w := W) e1]; exact c1
  · rw [World.cell?_of_block (w := W) e2]; exact c2
  · rw [World.cell?_of_block (w := W) e2]; exact c3
  · rw [World.cell?_of_block (w := W) e2]; exact c4
  · rw [World.cell?_of_block (w := W) e2]; exact c5

/-- l7At, of what lies flat -/
theorem l7At_h (P : Int) (R C i j : Nat) (p : Option Addr) (k N : Nat) (h : Nat → Int) (w : World) (hI : Ints w (.slice p N k) ((List.range N).map h)) (hN : N ≤ 1000) (ht : i * C + j < N) :
    Calls Try.prog 47 #[.agg #[.int .i64 P, .int .i64 (R : Int), .int .i64 (C : Int), .slice p N k], .int .i64 (i : Int), .int .i64 (j : Int)] w fun e w' =>
      e = .returned (.int .i64 (h (i * C + j))) ∧ Below w.heap.size w w' := by
  have := l7At_any P R C i j (.slice p N k) ((List.range N).map h) w hI (by simpa using ht) (by simp; omega)
  have e : ((List.range N).map h).getD (i * C + j) 0 = h (i * C + j) := by simp [List.getD_eq_getElem?_getD, ht]
  rwa [e] at this

/-- .. the number under a name -/
theorem l7At_b (P : Int) (R C i j : Nat) (p : Option Addr) (k N : Nat) (h : Nat → Int) (y : Int) (hy : y = mf C h i j) (hN : N ≤ 1000) (ht : i * C + j < N) (w : World) (hI : Ints w (.slice p N k) ((List.range N).map h)) :
    Calls Try.prog 47 #[.agg #[.int .i64 P, .int .i64 (R : Int), .int .i64 (C : Int), .slice p N k], .int .i64 (i : Int), .int .i64 (j : Int)] w fun e w' =>
      e = .returned (.int .i64 y) ∧ Below w.heap.size w w' := by rw [hy]; exact l7At_h P R C i j p k N h w hI hN ht

theorem swM_rng {P : Int} {C R a n i c : Nat} {M : Nat → Nat → Int} (h : ∀ i c, i < R → c < C → 0 ≤ M i c ∧ M i c < P) (hn : n < R) (ha : a < R) (hi : i < R) (hc : c < C) : 0 ≤ swM a n M i c ∧ swM a n M i c < P := by
  unfold swM
  split
  · exact h n c hn hc
  · split
    · exact h a c ha hc
    · exact h i c hi hc

theorem scM_rng {P v : Int} {C R n i c : Nat} {M : Nat → Nat → Int} (hP : 2 ≤ P) (h : ∀ i c, i < R → c < C → 0 ≤ M i c ∧ M i c < P) (hi : i < R) (hc : c < C) : 0 ≤ scM P v n M i c ∧ scM P v n M i c < P := by
  unfold scM
  split
  · exact ⟨Int.emod_nonneg _ (by omega), Int.emod_lt_of_pos _ (by omega)⟩
  · exact h i c hi hc
theorem rng64 {x : Int} (h0 : -1000000000000000000 ≤ x) (h1 : x ≤ 1000000000000000000) : wrap64 x = x ∧ IntKind.i64.wrap x = x := ⟨w64 h0 h1, k64 h0 h1⟩

theorem L7I.congr {P : Int} {C R : Nat} {M0 M M' : Nat → Nat → Int} {q : Nat → Nat} {n j : Nat} (hj : j ≤ C) (h : L7I P C R M0 M q n j) (e : ∀ i c, i < R → c < C → M i c = M' i c) : L7I P C R M0 M' q n j := by
  have hn := h.le
  refine ⟨h.le, fun i c hi hc => by rw [← e i c hi hc]; exact h.rng i c hi hc, h.lt, h.asc, fun i k hi hk => ?_, fun i c hi hc => ?_, fun i c h1 h2 h3 => ?_, h.same.trans (SameSp.of_eqv fun i hi => .of_eq fun c hc => e i c hi hc)⟩
  · have := h.lt k hk
    rw [← e i _ hi (by omega)]; exact h.unit i k hi hk
  · have := h.lt i hi
    rw [← e i c (by omega) (by omega)]; exact h.lead i c hi hc
  · rw [← e i c h2 (by omega)]; exact h.zero i c h1 h2 h3

/-- what l7Reduce returns: the reduced form, the other rows 0, and the columns -/
def RetL7 (w : World) (P : Int) (R C : Nat) (M0 : Nat → Nat → Int) (e : Ending) (w' : World) : Prop :=
  ∃ (u v : Value) (h : Nat → Int) (n : Nat) (qf : Nat → Nat), e = .returned (.tuple #[.agg #[.int .i64 P, .int .i64 (R : Int), .int .i64 (C : Int), u], v]) ∧
    OwnF w' w.heap.size w'.heap.size 3 u (R * C) (fun t => .int .i64 (h t)) ∧ OwnF w' w.heap.size w'.heap.size 3 v n (fun k => .int .i64 (qf k : Int)) ∧ Below w.heap.size w w' ∧
    n ≤ R ∧ (∀ i c, i < R → c < C → 0 ≤ mf C h i c ∧ mf C h i c < P) ∧ Red P C n (mf C h) qf ∧ (∀ i k, i < k → k < n → qf i < qf k) ∧
    (∀ i c, n ≤ i → i < R → c < C → mf C h i c = 0) ∧ SameSp P C R M0 n (mf C h)

/-- what has been laid up is what is returned -/
theorem l7_fin {w wr : World} {T : TypeId} {P : Int} {R C : Nat} {d : Value} {q : Nat} {p p5 : Option Addr} {k k5 N n j : Nat} {h : Nat → Int} {qf : Nat → Nat} {M0 : Nat → Nat → Int} (hP : 2 ≤ P) (hj : j ≤ C) (hd : j = C ∨ n = R) (hn : n ≤ R) (hN : N = R * C)
    (hrs : RS w T 3 P R C d q p k N h wr) (hpv : OwnF wr (q + 1) wr.heap.size 3 (.slice p5 n k5) n (fun k => .int .i64 (qf k : Int))) (hL : L7I P C R M0 (mf C h) qf n j) :
    RetL7 w P R C M0 (.returned (.tuple #[.agg #[.int .i64 P, .int .i64 (R : Int), .int .i64 (C : Int), .slice p N k], .slice p5 n k5]))
      ((((wr.setCell ⟨w.heap.size + 1, 0, none⟩ (.int .i64 P)).setCell ⟨w.heap.size + 1, 1, none⟩ (.int .i64 (R : Int))).setCell ⟨w.heap.size + 1, 2, none⟩ (.int .i64 (C : Int))).setCell ⟨w.heap.size + 1, 3, none⟩ (.slice p N k)) := by
  obtain ⟨a1, a2, a3, a4, a5, a6⟩ := hrs
  obtain ⟨t1, t2, t3⟩ := hL.done hj hd
  have hq := blk_lt a3
  refine ⟨_, _, h, n, qf, rfl, ?_, ?_, below_set4 a5 (by omega) _ _ _ _, hn, hL.rng, t1, hL.asc, t2, t3⟩
  · subst hN
    exact ((((a4.setCell (.inl (by show w.heap.size + 1 < _; omega)) _).setCell (.inl (by show w.heap.size + 1 < _; omega)) _).setCell (.inl (by show w.heap.size + 1 < _; omega)) _).setCell (.inl (by show w.heap.size + 1 < _; omega)) _).mono (by omega) (by simp only [size_setCell]; omega)
  · exact ((((hpv.setCell (.inl (by show w.heap.size + 1 < _; omega)) _).setCell (.inl (by show w.heap.size + 1 < _; omega)) _).setCell (.inl (by show w.heap.size + 1 < _; omega)) _).setCell (.inl (by show w.heap.size + 1 < _; omega)) _).mono (by omega) (by simp only [size_setCell]; omega)

end Go.Proofs.Ytpfefjdefopccaa

namespace Go.Proofs.Ytpfefjdefopccaa
set_option linter.all false
open Go.RowKit

theorem ints_at {w : World} {v : Value} {rows : List (List Int)} {f : Nat → Value} (h : ∀ i, i < rows.length → Ints w (f i) (rows.getD i [])) {i : Nat} (hi : i < rows.length) :
    ∃ p cap, f i = .slice p (rows.getD i []).length cap ∧ (rows.getD i []).length ≤ cap ∧ cap ≤ maxLen := by
  obtain ⟨p, cap, e, ⟨h1, h2⟩, _⟩ := h i hi
  exact ⟨p, cap, e, h1, h2⟩

theorem keep2 {wr W W' : World} {a0 a1 : Addr} {v0 v1 : Value} (hb : Below W.heap.size W W') (h : (W.cell? a0 = some v0 ∧ W.cell? a1 = some v1) ∧ Below wr.heap.size wr W) :
    (W'.cell? a0 = some v0 ∧ W'.cell? a1 = some v1) ∧ Below wr.heap.size wr W' := ⟨⟨cell_below hb h.1.1, cell_below hb h.1.2⟩, below_trans h.2 hb⟩

/-- two lists of lists are the same row by row -/
theorem rows_eq {xs ys : List (List Int)} (hl : xs.length = ys.length) (h : ∀ j, j < xs.length → xs.getD j [] = ys.getD j []) : xs = ys := by
  apply List.ext_getElem hl
  intro i h1 h2
  have := h i h1
  simpa [List.getD_eq_getElem?_getD, h1, h2] using this

/-- slices of different types lie in different blocks -/
theorem own_types {Ts Ti : TypeId} {w : World} {lo hi lo1 hi1 n : Nat} {v y : Value} {f : Nat → Value} {ys : List Int} (g1 : OwnF w lo hi Ts v n f) (hy : OwnI Ti w lo1 hi1 y ys) (hT : Ts ≠ Ti)
    {k : Nat} (hv : v.ownBlock = some k) (hk : y.ownBlock = some k) : False := by
  obtain ⟨zs, hz, _⟩ := g1
  rcases Own.row hz with ⟨e1, _⟩ | ⟨g, cap', F, e1, _, _, _, _, hr, _⟩
  · rw [e1] at hv; simp [Value.ownBlock] at hv
  · rw [e1] at hv
    simp only [Value.ownBlock, Option.some.injEq] at hv
    subst hv
    rcases Own.row hy with ⟨e2, _⟩ | ⟨g', cap2, F2, e2, _, _, _, _, hr2, _⟩
    · rw [e2] at hk; simp [Value.ownBlock] at hk
    · rw [e2] at hk
      simp only [Value.ownBlock, Option.some.injEq] at hk
      subst hk
      obtain ⟨c, hc, _⟩ := hr
      obtain ⟨c2, hc2, _⟩ := hr2
      rw [hc] at hc2
      injection hc2 with hc2
      injection hc2 with _ hc2
      exact hT hc2
/-- an owned slice lies in its own block, or in none -/
theorem OwnI.tight {T : TypeId} {w : World} {lo hi : Nat} {v : Value} {xs : List Int} (h : OwnI T w lo hi v xs) :
    ∃ lo' hi', OwnI T w lo' hi' v xs ∧ (∀ k, lo' ≤ k → k < hi' → v.ownBlock = some k ∧ lo ≤ k ∧ k < hi) := by
  obtain ⟨⟨hl, hr⟩, hh⟩ := h
  rcases hr with ⟨rfl, h0⟩ | ⟨g, cap, cur, rfl, hg, r⟩
  · exact ⟨0, 0, ⟨⟨hl, .inl ⟨rfl, h0⟩⟩, fun k hk => by simp [Value.ownBlock] at hk⟩, fun k h1 h2 => absurd h2 (Nat.not_lt_zero _)⟩
  · refine ⟨g, g + 1, ⟨⟨hl, .inr ⟨g, cap, cur, rfl, Nat.le_refl _, r⟩⟩, fun k hk => by simp [Value.ownBlock] at hk; omega⟩, fun k h1 h2 => ?_⟩
    obtain rfl : k = g := by omega
    exact ⟨rfl, hg, hh k rfl⟩

theorem OwnI.widen {T : TypeId} {w : World} {lo hi lo' hi' : Nat} {v : Value} {xs : List Int} (h : OwnI T w lo' hi' v xs) (hin : ∀ k, v.ownBlock = some k → lo ≤ k ∧ k < hi) : OwnI T w lo hi v xs := by
  obtain ⟨⟨hl, hr⟩, hh⟩ := h
  rcases hr with ⟨rfl, h0⟩ | ⟨g, cap, cur, rfl, hg, r⟩
  · exact ⟨⟨hl, .inl ⟨rfl, h0⟩⟩, fun k hk => by simp [Value.ownBlock] at hk⟩
  · exact ⟨⟨hl, .inr ⟨g, cap, cur, rfl, (hin g rfl).1, r⟩⟩, fun k hk => (hin k hk).2⟩
theorem OwnI.besides {T : TypeId} {w w' : World} {lo hi lo' hi' : Nat} {v : Value} {xs : List Int} (h : OwnI T w lo hi v xs) (hf : Frm lo' hi' w w') (hne : ∀ b, v.ownBlock = some b → b < lo' ∨ hi' ≤ b) : OwnI T w' lo hi v xs :=
  ⟨ownsRow_of_block h.1 fun b hb => hf.block b (Own.block h hb).2.2 (hne b hb), h.2⟩
theorem OwnF.besides {T : TypeId} {w w' : World} {lo hi lo' hi' n : Nat} {v : Value} {f : Nat → Value} (h : OwnF w lo hi T v n f) (hf : Frm lo' hi' w w') (hne : ∀ b, v.ownBlock = some b → b < lo' ∨ hi' ≤ b) : OwnF w' lo hi T v n f := by
  obtain ⟨xs, h, hx⟩ := h
  exact ⟨xs, ⟨ownsRow_of_block h.1 fun b hb => hf.block b (Own.block h hb).2.2 (hne b hb), h.2⟩, hx⟩

/-- how many numbers the first k rows have -/
def pre (rows : List (List Int)) (k : Nat) : Nat := (rows.take k).flatten.length
theorem pre_zero (rows : List (List Int)) : pre rows 0 = 0 := by simp [pre]
theorem pre_succ (rows : List (List Int)) (k : Nat) (h : k < rows.length) : pre rows (k + 1) = pre rows k + (rows.getD k []).length := by
  have e : rows[k]? = some (rows.getD k []) := by rw [List.getD_eq_getElem?_getD, List.getElem?_eq_getElem h]; rfl
  unfold pre
  rw [List.take_add_one, List.flatten_append, List.length_append, e]
  simp only [Option.toList, List.flatten_cons, List.flatten_nil, List.append_nil]
theorem pre_le (rows : List (List Int)) (k : Nat) : pre rows k ≤ rows.flatten.length := by
  have e : rows.flatten.length = (rows.take k).flatten.length + (rows.drop k).flatten.length := by
    rw [← List.length_append, ← List.flatten_append, List.take_append_drop]
  unfold pre; omega
theorem pre_all (rows : List (List Int)) : pre rows rows.length = rows.flatten.length := by simp [pre]
/-- the rows, written over by m, m+1, .. -/
def runsII (m : Int) (rows : List (List Int)) : List (List Int) := (List.range rows.length).map fun i => runs (m + pre rows i) (rows.getD i []).length
theorem length_runsII (m : Int) (rows : List (List Int)) : (runsII m rows).length = rows.length := by simp [runsII]
theorem getD_runsII (m : Int) (rows : List (List Int)) {i : Nat} (h : i < rows.length) : (runsII m rows).getD i [] = runs (m + pre rows i) (rows.getD i []).length := by
  simp [runsII, List.getD_eq_getElem?_getD, h]

end Go.Proofs.Ytpfefjdefopccaa

namespace Go.Proofs.Ytpfefjdefopccaa
set_option linter.all false
open Go.RowKit

/-- rows of their own (lo .. mid-1, then mid .. hi-1) stand one behind the other in a slice that an append made -/
theorem OwnII.join {Ts Ti : TypeId} {w w' : World} {lo mid hi : Nat} {v v' : Value} {rows rows2 : List (List Int)} {f g : Nat → Value}
    (g1 : OwnF w lo mid Ts v rows.length f) (g2 : ∀ i, i < rows.length → OwnI Ti w lo mid (f i) (rows.getD i []))
    (g3 : ∀ i j, i < j → j < rows.length → ∀ k, (f i).ownBlock = some k → (f j).ownBlock ≠ some k)
    (h2 : ∀ i, i < rows2.length → OwnI Ti w mid hi (g i) (rows2.getD i []))
    (h3 : ∀ i j, i < j → j < rows2.length → ∀ k, (g i).ownBlock = some k → (g j).ownBlock ≠ some k)
    (hm : lo ≤ mid) (hmh : mid ≤ hi) (hT : Ts ≠ Ti) (hg : w.grownBy w' v.ownBlock) (hsz : hi ≤ w'.heap.size)
    (hv : OwnF w' lo w'.heap.size Ts v' (rows.length + rows2.length) (fun j => if j < rows.length then f j else g (j - rows.length))) :
    OwnII Ts Ti w' lo w'.heap.size v' (rows ++ rows2) := by
  have hrow : ∀ (y : Value) (ys : List Int) (lo1 hi1 : Nat), OwnI Ti w lo1 hi1 y ys → OwnI Ti w' lo1 hi1 y ys := fun y ys lo1 hi1 hy =>
    ⟨ownsRow_of_block hy.1 fun k hk => hg.block k (Own.block hy hk).2.2 fun e => own_types g1 hy hT e.symm hk, hy.2⟩
  refine ⟨_, by rw [List.length_append]; exact hv, fun i hi => ?_, fun i j hij hj k hk => ?_⟩
  · rw [List.length_append] at hi
    by_cases hlt : i < rows.length
    · have e : (rows ++ rows2).getD i [] = rows.getD i [] := by simp [List.getD_eq_getElem?_getD, List.getElem?_append_left hlt]
      simp only [hlt, if_true]
      rw [e]
      exact (hrow _ _ _ _ (g2 i hlt)).mono (Nat.le_refl _) (by omega)
    · have e : (rows ++ rows2).getD i [] = rows2.getD (i - rows.length) [] := by
        simp [List.getD_eq_getElem?_getD, List.getElem?_append_right (Nat.le_of_not_lt hlt)]
      simp only [hlt, if_false]
      rw [e]
      exact (hrow _ _ _ _ (h2 _ (by omega))).mono hm hsz
  · rw [List.length_append] at hj
    by_cases hlt : j < rows.length
    · simp only [hlt, if_true]
      simp only [show i < rows.length by omega, if_true] at hk
      exact g3 i j hij hlt k hk
    · simp only [hlt, if_false]
      by_cases hil : i < rows.length
      · simp only [hil, if_true] at hk
        intro e
        have h5 := (Own.block (g2 i hil) hk).2.1
        have h6 := (Own.block (h2 _ (by omega)) e).1
        omega
      · simp only [hil, if_false] at hk
        exact h3 _ _ (by omega) (by omega) k hk

theorem OwnI.snoc1 {T : TypeId} {w : World} {lo hi : Nat} {v : Value} {out : List Int} {x : Int} (h : OwnF w lo hi T v (out.length + 1) (fun j => if j < out.length then iv out j else .int .i64 x)) : OwnI T w lo hi v (out ++ [x]) := by
  refine OwnF.ints ?_
  rw [List.length_append]
  exact h.congr fun j hj => by
    by_cases h : j < out.length
    · simp [h, iv, List.getD_eq_getElem?_getD, List.getElem?_append_left h]
    · have : j = out.length := by omega
      subst this
      simp [iv, List.getD_eq_getElem?_getD]

theorem flatMap_len {α : Type} (g : Nat → List α) (b : Nat) (h : ∀ x, (g x).length ≤ b) : ∀ n, ((List.range n).flatMap g).length ≤ n * b
  | 0 => by simp
  | n + 1 => by
    rw [List.range_succ, List.flatMap_append, List.length_append, Nat.succ_mul]
    have := flatMap_len g b h n
    have h2 := h n
    simp only [List.flatMap_cons, List.flatMap_nil, List.append_nil]
    omega

theorem flatMap_snoc {α : Type} (g : Nat → List α) (n : Nat) : (List.range (n + 1)).flatMap g = (List.range n).flatMap g ++ g n := by
  rw [List.range_succ, List.flatMap_append]
  simp

end Go.Proofs.Ytpfefjdefopccaa

namespace Go.Proofs.Ytpfefjdefopccaa
set_option linter.all false
open Go.RowKit

set_option maxRecDepth 100000 in
theorem cmpPiv_any (v u : Value) (xs ys : List Int) (w : World) (h : Ints w v xs) (h' : Ints w u ys) (hx : xs.length ≤ 1000) (hy : ys.length ≤ 1000) :
    Calls Try.prog 53 #[v, u] w fun e w' => e = .returned (.int .i64 (pivL xs - pivL ys)) ∧ Qt w w' := by
  have h1 := pivot_any v xs w h
  have h2 := fun W (hq : Qt w W) => pivot_any u ys W (h'.qt hq)
  have b1 : -1 ≤ pivL xs ∧ pivL xs ≤ 1000 := by
    rcases pivL_cases xs with ⟨e, _⟩ | ⟨k, e, hk, _⟩ <;> rw [e] <;> omega
  have b2 : -1 ≤ pivL ys ∧ pivL ys ≤ 1000 := by
    rcases pivL_cases ys with ⟨e, _⟩ | ⟨k, e, hk, _⟩ <;> rw [e] <;> omega
  generalize pivL xs = a at h1 b1 ⊢
  generalize pivL ys = b at h2 b2 ⊢
  obtain ⟨p, cap, rfl, _⟩ := h
  obtain ⟨p', cap', rfl, _⟩ := h'
  have H1 := Lib.hid h1
  have H2 := Lib.hid h2
  clear h1 h2
  go_enter Try.func53, Try.ntmps53
  go_wp2_with fail
  refine H1.out.mono ?_
  rintro e w1 ⟨rfl, hq⟩
  have Hq := Lib.hid hq
  clear hq
  go_wp2_with fail
  refine (H2.out _ Hq.out).mono ?_
  rintro e w2 ⟨rfl, hq2⟩
  have Hq2 := Lib.hid (Hq.out.trans hq2)
  clear hq2
  go_wp2_with fail
  go_ret
  exact ⟨rfl, Hq2.out⟩

open Go.Sort Go.Shelf in
theorem sortWorld_at {α : Type} [Inhabited α] (enc : α → Value) {w : World} {blk : Nat} {c : Array Value} {T : TypeId} (h : w.heap[blk]? = some (.cells c T (0, 0))) (m : Nat) (d : Array α) (os : Array Obj) :
    (sortWorld enc w blk 0 m d os).heap[blk]? = some (.cells (putCells enc 0 d c) T (0, 0)) := by
  have hlt : blk < w.heap.size := blk_lt h
  unfold sortWorld
  rw [heap_grow_old _ _ (by rw [size_putRow]; exact hlt)]
  unfold putRow mapBlock
  simp only [Array.getElem?_modify]
  have : (Sort.ahead w m).heap = w.heap := rfl
  rw [this, h]
  simp [onCells]
open Go.Sort Go.Shelf in
theorem sortWorld_other {α : Type} [Inhabited α] (enc : α → Value) {w : World} {blk k : Nat} (hk : k < w.heap.size) (hne : k ≠ blk) (m : Nat) (d : Array α) (os : Array Obj) :
    (sortWorld enc w blk 0 m d os).heap[k]? = w.heap[k]? := by
  unfold sortWorld
  rw [heap_grow_old _ _ (by rw [size_putRow]; exact hk)]
  unfold putRow mapBlock
  simp only [Array.getElem?_modify]
  have : (Sort.ahead w m).heap = w.heap := rfl
  rw [this, if_neg (fun e => hne e.symm)]
open Go.Sort Go.Shelf in
theorem sortWorld_size {α : Type} [Inhabited α] (enc : α → Value) (w : World) (blk m : Nat) (d : Array α) (os : Array Obj) :
    w.heap.size ≤ (sortWorld enc w blk 0 m d os).heap.size := by
  unfold sortWorld
  rw [size_grow, size_putRow]
  exact Nat.le_add_right _ _
open Go.Sort Go.Shelf in
theorem sortWorld_frm {α : Type} [Inhabited α] (enc : α → Value) (w : World) {blk lo hi : Nat} (h1 : lo ≤ blk) (h2 : blk < hi) (m : Nat) (d : Array α) (os : Array Obj) :
    Frm lo hi w (sortWorld enc w blk 0 m d os) :=
  ⟨rfl, rfl, rfl, sortWorld_size _ _ _ _ _ _, fun k hk ho => sortWorld_other enc hk (by omega) m d os⟩

theorem OwnI.at_block {T : TypeId} {w w' : World} {lo hi : Nat} {v : Value} {xs : List Int} (hy : OwnI T w lo hi v xs) (h : ∀ k, v.ownBlock = some k → w'.heap[k]? = w.heap[k]?) : OwnI T w' lo hi v xs :=
  ⟨ownsRow_of_block hy.1 fun k hk => h k hk, hy.2⟩

/-- the rows stand in another order, by their first places -/
def Sorted (rows : List (List Int)) (τ : Nat → Nat) : Prop :=
  (∀ i, i < rows.length → τ i < rows.length) ∧ (∀ i j, i < rows.length → j < rows.length → τ i = τ j → i = j) ∧ (∀ j, j < rows.length → ∃ i, i < rows.length ∧ τ i = j) ∧
  ∀ i j, i < j → j < rows.length → pivL (rows.getD (τ i) []) ≤ pivL (rows.getD (τ j) [])
def reL (rows : List (List Int)) (τ : Nat → Nat) : List (List Int) := (List.range rows.length).map fun i => rows.getD (τ i) []
theorem reL_length (rows : List (List Int)) (τ : Nat → Nat) : (reL rows τ).length = rows.length := by simp [reL]
theorem reL_getD {rows : List (List Int)} {τ : Nat → Nat} {i : Nat} (h : i < rows.length) : (reL rows τ).getD i [] = rows.getD (τ i) [] := by simp [reL, List.getD_eq_getElem?_getD, h]

open Go.Sort Go.Shelf in
theorem swo_piv (P : Nat → Int) : SWO (ltOf fun i j => P i - P j) where
  irrefl x := by simp [ltOf]
  trans x y z h1 h2 := by simp [ltOf] at *; omega
  ntrans x y z h1 h2 := by simp [ltOf] at *; omega

open Go.Sort Go.Shelf in
theorem sortRows_any (v : Value) (rows : List (List Int)) (lo hi : Nat) (w : World) (h : OwnII 24 3 w lo hi v rows) (hn : rows.length ≤ 1000) (hl : ∀ i, i < rows.length → (rows.getD i []).length ≤ 1000) (hhi : hi ≤ w.heap.size) :
    Calls Try.prog 52 #[v, .func (.func 53) #[] #[]] w fun e w' => e = .returned (.tuple #[]) ∧
      ∃ τ, Sorted rows τ ∧ OwnII 24 3 w' lo hi v (reL rows τ) ∧ Frm lo hi w w' := by
  obtain ⟨F, g1, g2, g3⟩ := h
  obtain ⟨p, cap, rfl, hnc, hcm, hp⟩ := g1.shape
  by_cases h0 : rows.length = 0
  · have hrows : rows = [] := List.eq_nil_of_length_eq_zero h0
    subst hrows
    have hcon := AnyF.slices_SortFunc_none (P := Try.prog) (ρ := Try.sortF_ren) { Try.sortF with } p cap (.func (.func 53) #[] #[]) w
    change Calls Try.prog 52 _ _ _ at hcon
    refine hcon.mono ?_
    rintro e w' ⟨rfl, rfl⟩
    exact ⟨rfl, id, ⟨fun i hi => hi, fun i j _ _ e => e, fun j hj => ⟨j, hj, rfl⟩, fun i j _ hj => absurd hj (by simp)⟩, ⟨F, g1, g2, g3⟩, Frm.refl _ _ _⟩
  · obtain ⟨g, rfl, hg1, hg2, hg3⟩ := hp (by omega)
    obtain ⟨G, hrow, hG, _, _, _, _, _⟩ := g1.opened
    have enter : ∀ args w, (callFunc 53 args).run Try.prog w = .ok (.enter 53 args) w := enters_of Try.func53 (by kernel_rfl) rfl
    obtain ⟨enc, henc⟩ : ∃ enc : Nat → Value, enc = fun i => if i < rows.length then F i else .slice none 0 0 := ⟨_, rfl⟩
    obtain ⟨R, hR⟩ : ∃ R : Nat → List Int, R = fun i => if i < rows.length then rows.getD i [] else [] := ⟨_, rfl⟩
    have hRl : ∀ i, (R i).length ≤ 1000 := fun i => by
      rw [hR]
      by_cases e : i < rows.length
      · simp only [e, if_true]; exact hl i e
      · simp [e]
    have hone : OneCell enc := fun i => by
      rw [henc]
      by_cases e : i < rows.length
      · simp only [e, if_true]
        obtain ⟨p1, k1, e1, _⟩ := (g2 i e).shape
        rw [e1]; rfl
      · simp only [e, if_false]; rfl
    have hnb : ∀ i, i < rows.length → ∀ k, (F i).ownBlock = some k → k ≠ g ∧ k < w.heap.size := fun i hi k hk => ⟨fun e => by
      subst e
      exact own_types g1 (g2 i hi) (by decide) rfl hk, (Own.block (g2 i hi) hk).2.2⟩
    have hcmp : CmpLays1 Try.prog 53 #[] enc (fun i j => pivL (R i) - pivL (R j)) g 0 (Array.range rows.length).size w := by
      refine CmpReads.lays fun m os dk _ x y => ?_
      have hI : ∀ i, Ints (sortWorld enc w g 0 m dk os) (enc i) (R i) := fun i => by
        rw [henc, hR]
        by_cases e : i < rows.length
        · simp only [e, if_true]
          exact ((g2 i e).at_block fun k hk => sortWorld_other _ (hnb i e k hk).2 (hnb i e k hk).1 m dk os).ints
        · simp only [e, if_false]
          exact ⟨none, 0, rfl, ⟨Nat.le_refl _, Nat.zero_le _⟩, fun h => absurd h (by simp)⟩
      exact cmpPiv_any (enc x) (enc y) (R x) (R y) _ (hI x) (hI y) (hRl x) (hRl y)
    have hH : Holds enc w g 0 (Array.range rows.length) := fun j hj => by
      rw [Array.size_range] at hj
      have e : (Array.range rows.length)[j]! = j := by rw [getElem!_pos _ j (by simpa using hj)]; simp
      rw [e, Nat.zero_add]
      refine ⟨?_, g1.frozen j⟩
      rw [g1.cell hj, henc]
      simp [hj]
    have hcon := Any.slices_SortFunc Try.sortF enc hone (fun i j => pivL (R i) - pivL (R j)) (swo_piv fun i => pivL (R i)) 53 #[] g 0 cap (Array.range rows.length) w enter hcmp hH hg3 (by rw [Array.size_range]; omega)
    change Calls Try.prog 52 _ _ _ at hcon
    rw [Array.size_range] at hcon
    refine hcon.mono ?_
    rintro e w' ⟨rfl, d', n, os, hp1, hs1, rfl⟩
    have hsz : d'.size = rows.length := by simpa using hp1.1
    have hperm : d'.toList.Perm (List.range rows.length) := by
      have h1 := hp1.2.2
      have e1 : d'.extract 0 rows.length = d' := by rw [← hsz]; simp
      have e2 : (Array.range rows.length).extract 0 rows.length = Array.range rows.length := by
        have := Array.extract_size (xs := Array.range rows.length)
        rwa [Array.size_range] at this
      rw [e1, e2] at h1
      simpa using h1
    have hat : ∀ i (hi : i < rows.length), d'[i]! = d'.toList[i]'(by simpa [hsz] using hi) := fun i hi => by
      rw [getElem!_pos d' i (by omega)]; simp
    have hlt : ∀ i, i < rows.length → d'[i]! < rows.length := fun i hi => by
      have : d'[i]! ∈ d'.toList := by rw [hat i hi]; exact List.getElem_mem _
      simpa using hperm.mem_iff.1 this
    have hRe : ∀ i, i < rows.length → R d'[i]! = rows.getD d'[i]! [] := fun i hi => by rw [hR]; simp only [hlt i hi, if_true]
    have hnd : d'.toList.Nodup := hperm.nodup_iff.2 List.nodup_range
    have hneq : ∀ i j, i < j → j < rows.length → d'[i]! ≠ d'[j]! := fun i j hij hj => by
      rw [hat i (by omega), hat j hj]
      exact (List.pairwise_iff_getElem.1 hnd) i j _ _ hij
    refine ⟨rfl, fun i => d'[i]!, ⟨hlt, fun i j hi hj e => ?_, fun j hj => ?_, fun i j hij hj => ?_⟩, ?_, sortWorld_frm enc w hg1 hg2 n d' os⟩
    · rcases Nat.lt_trichotomy i j with h | h | h
      · exact absurd e (hneq i j h hj)
      · exact h
      · exact absurd e.symm (hneq j i h hi)
    · have : j ∈ d'.toList := hperm.mem_iff.2 (by simpa using hj)
      obtain ⟨i, hi, e⟩ := List.mem_iff_getElem.1 this
      have hi' : i < rows.length := by simpa [hsz] using hi
      exact ⟨i, hi', by rw [← e]; exact hat i hi'⟩
    · have h1 := hs1 i j (Nat.zero_le _) hij hj
      simp only [ltOf, decide_eq_false_iff_not] at h1
      rw [hRe i (by omega), hRe j hj] at h1
      dsimp only
      omega
    · obtain ⟨c, hc1, hc2, hc3⟩ := hrow
      have hrow' : (sortWorld enc w g 0 n d' os).rowIs g 24 cap (fun k => if k < rows.length then F d'[k]! else G k) := by
        refine ⟨_, sortWorld_at enc hc1 n d' os, by simp [putCells, hc2], fun i hi => ?_⟩
        simp only [putCells, Array.getElem?_mapIdx, hc3 i hi, Option.map_some, Nat.zero_le, true_and, Nat.zero_add, Nat.sub_zero, hsz]
        by_cases e : i < rows.length
        · simp only [e, if_true]
          rw [henc]
          simp only [hlt i e, if_true]
        · simp only [e, if_false]
      refine ⟨fun k => F d'[k]!, ?_, fun i hi => ?_, fun i j hij hj k hk => ?_⟩
      · rw [reL_length]
        exact OwnF.mk' hrow' hg1 hg2 hnc hcm fun j hj => by simp only [hj, if_true]
      · rw [reL_length] at hi
        rw [reL_getD hi]
        exact (g2 _ (hlt i hi)).at_block fun k hk => sortWorld_other enc (hnb _ (hlt i hi) k hk).2 (hnb _ (hlt i hi) k hk).1 n d' os
      · rw [reL_length] at hj
        have h1 := hneq i j hij hj
        intro hk2
        rcases Nat.lt_or_gt_of_ne h1 with h2 | h2
        · exact g3 _ _ h2 (hlt j hj) k hk hk2
        · exact g3 _ _ h2 (hlt i (by omega)) k hk2 hk

end Go.Proofs.Ytpfefjdefopccaa
