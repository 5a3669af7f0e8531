/-
  Slices of cells of a diagram: two numbers an element.
-/
import Derived.Test.YtejoapielndnnaaRankAt
import Derived.Test.YtejoapielndnnaaStep
namespace Go.Proofs.Ytejoapielndnnaa
set_option linter.all false
open Go.RowKit

/-- cells, as values -/
def cellVs (cs : List (Int × Int)) : List Value := cs.flatMap fun c => [.int .i64 c.1, .int .i64 c.2]
theorem cellVs_snoc (cs : List (Int × Int)) (c : Int × Int) : cellVs (cs ++ [c]) = cellVs cs ++ [.int .i64 c.1, .int .i64 c.2] := by simp [cellVs]
theorem cellVs_length (cs : List (Int × Int)) : (cellVs cs).length = cs.length * 2 := by
  induction cs with
  | nil => rfl
  | cons c cs ih => simp only [cellVs, List.flatMap_cons, List.length_append, List.length_cons, List.length_nil] at ih ⊢; omega
theorem cellVs_get (cs : List (Int × Int)) : ∀ i, i < cs.length → (cellVs cs)[i * 2]? = some (.int .i64 (cs.getD i (0, 0)).1) ∧ (cellVs cs)[i * 2 + 1]? = some (.int .i64 (cs.getD i (0, 0)).2) := by
  induction cs with
  | nil => intro i hi; exact absurd hi (Nat.not_lt_zero _)
  | cons c cs ih =>
    intro i hi
    have e : cellVs (c :: cs) = .int .i64 c.1 :: .int .i64 c.2 :: cellVs cs := by simp [cellVs]
    rw [e]
    cases i with
    | zero => simp
    | succ i =>
      have := ih i (by simpa using hi)
      rw [show (i + 1) * 2 = i * 2 + 1 + 1 by omega]
      simpa using this
/-- cells that can be read -/
def RdC (w : World) (v : Value) (cs : List (Int × Int)) : Prop :=
  ∃ p cap, v = .slice p cs.length cap ∧ (cs.length ≤ cap ∧ cap ≤ maxLen) ∧ (0 < cs.length → ∃ b, p = some ⟨b, 0, none⟩ ∧ ∀ i, i < cs.length → w.cell? ⟨b, i * 2, none⟩ = some (.int .i64 (cs.getD i (0, 0)).1) ∧ w.cell? ⟨b, i * 2 + 1, none⟩ = some (.int .i64 (cs.getD i (0, 0)).2))
theorem RdC.of_cells {w w' : World} {v : Value} {cs : List (Int × Int)} (h : RdC w v cs) (hc : ∀ a x, w.cell? a = some x → w'.cell? a = some x) : RdC w' v cs := by
  obtain ⟨p, cap, rfl, hm, h⟩ := h
  refine ⟨p, cap, rfl, hm, fun h0 => ?_⟩
  obtain ⟨b, hp, hx⟩ := h h0
  exact ⟨b, hp, fun i hi => ⟨hc _ _ (hx i hi).1, hc _ _ (hx i hi).2⟩⟩
theorem RdC.below {w w' : World} {v : Value} {cs : List (Int × Int)} (h : RdC w v cs) (hb : Below w.heap.size w w') : RdC w' v cs :=
  h.of_cells fun a x hx => by rw [hb.cell (World.block_lt_of_cell? w a hx)]; exact hx
theorem RdC.qt {w w' : World} {v : Value} {cs : List (Int × Int)} (h : RdC w v cs) (q : Qt w w') : RdC w' v cs := h.of_cells fun _ _ hx => q.cell hx
/-- cells that a call made -/
def OwnC (w : World) (lo hi : Nat) (v : Value) (cs : List (Int × Int)) : Prop := Own w lo hi 55 2 v cs.length (cellVs cs)
theorem OwnC.below {w w' : World} {lo hi : Nat} {v : Value} {cs : List (Int × Int)} (h : OwnC w lo hi v cs) (hb : Below w.heap.size w w') : OwnC w' lo hi v cs := Own.below h hb
theorem OwnC.mono {w : World} {lo hi lo' hi' : Nat} {v : Value} {cs : List (Int × Int)} (h : OwnC w lo hi v cs) (h1 : lo' ≤ lo) (h2 : hi ≤ hi') : OwnC w lo' hi' v cs := Own.mono h h1 h2
theorem OwnC.rd {w : World} {lo hi : Nat} {v : Value} {cs : List (Int × Int)} (h : OwnC w lo hi v cs) : RdC w v cs := by
  obtain ⟨h, _⟩ := h
  have h' := h
  rcases h'.2 with ⟨rfl, e⟩ | ⟨g, cap, cur, rfl, _, _, hm, hm2, _⟩
  · exact ⟨none, 0, by rw [e], ⟨by omega, Nat.zero_le _⟩, fun h0 => absurd h0 (by omega)⟩
  · refine ⟨_, cap, rfl, ⟨hm, hm2⟩, fun _ => ⟨g, rfl, fun i hi => ?_⟩⟩
    obtain ⟨g1, g2⟩ := cellVs_get cs i hi
    have hadd : ∀ j, (⟨g, 0, none⟩ : Addr).add j = ⟨g, 0 + j, none⟩ := fun j => by unfold Addr.add; split <;> simp_all
    have c1 := h.cells (g := g) rfl _ _ g1
    have c2 := h.cells (g := g) rfl _ _ g2
    rw [hadd, Nat.zero_add] at c1 c2
    exact ⟨c1, c2⟩
theorem OwnC.shape {w : World} {lo hi : Nat} {v : Value} {cs : List (Int × Int)} (h : OwnC w lo hi v cs) : ∃ p cap, v = .slice p cs.length cap ∧ cs.length ≤ cap ∧ cap ≤ maxLen := by
  obtain ⟨p, cap, e, hm, _⟩ := h.rd
  exact ⟨p, cap, e, hm.1, hm.2⟩
theorem OwnC.blocks {w : World} {lo hi : Nat} {v : Value} {cs : List (Int × Int)} (h : OwnC w lo hi v cs) : ∀ k, v.ownBlock = some k → lo ≤ k ∧ k < hi := fun k hk => ⟨(Own.block h hk).1, (Own.block h hk).2.1⟩
theorem OwnC.made0 (w : World) : OwnC (w.alloc (.cells #[] 55)) w.heap.size (w.heap.size + 1) (.slice (some ⟨w.heap.size, 0, none⟩) 0 0) [] :=
  ⟨⟨rfl, .inr ⟨w.heap.size, 0, #[], rfl, Nat.le_refl _, heap_alloc_top _ _, Nat.le_refl _, Nat.zero_le _, rfl, rfl⟩⟩, fun k hk => by simp [Value.ownBlock] at hk; omega⟩
theorem info_cell : (Try.prog.info? 55).map (fun i => (i.zero, i.size, i.bytes)) = some (some (.agg #[.int .i64 0, .int .i64 0]), 2, 16) := by kernel_rfl
theorem info_parts2 {P : Program} {t : TypeId} {z : Value} {size bytes : Nat} (h : (P.info? t).map (fun i => (i.zero, i.size, i.bytes)) = some (some z, size, bytes)) : ∃ i, P.info? t = some i ∧ i.zero = some z ∧ i.size = size ∧ i.bytes = bytes := by
  cases hi : P.info? t with
  | none => rw [hi] at h; cases h
  | some i =>
    rw [hi] at h
    simp only [Option.map_some, Option.some.injEq, Prod.mk.injEq] at h
    exact ⟨i, rfl, h.1, h.2.1, h.2.2⟩
/-- a cell put behind cells of the call's own -/
theorem wpList_append_C {w : World} {ops : Array Oper} {rest : List Oper} {o : Oper} {a : Act} {Q : Exit → Act → World → Prop} (hgd : o.guard = none) (s x : Operand)
    (ho : o.op = .call { callee := .builtin .append, args := #[s, x], argTypes := #[51, 51] })
    (lo hi : Nat) (v : Value) (cs : List (Int × Int)) (hs : a.eval s = v) (hown : OwnC w lo hi v cs) (hlo : lo ≤ w.heap.size)
    (b k : Nat) (c : Int × Int) (hx : a.eval x = .slice (some ⟨b, 0, none⟩) 1 k) (h0 : w.cell? ⟨b, 0, none⟩ = some (.int .i64 c.1)) (h1 : w.cell? ⟨b, 1, none⟩ = some (.int .i64 c.2)) (hn : cs.length + 1 ≤ 100000)
    (h : ∀ v' w', OwnC w' lo w'.heap.size v' (cs ++ [c]) → w.grownBy w' v.ownBlock → wpList Try.prog ops Q rest (a.put o.dst v') w') :
    wpList Try.prog ops Q (o :: rest) a w := by
  obtain ⟨i, hi, hz, hsz, hby⟩ := info_parts2 info_cell
  refine wpList_append_own w hgd s x _ ho lo 55 i _ 2 16 Try.underlying51 hi hz hsz hby rfl (by omega) v cs.length (cellVs cs) hs hown.1 ⟨b, 0, none⟩ 1 k [.int .i64 c.1, .int .i64 c.2] hx rfl
    (fun j u hj => ?_) (fun u hu => ?_) (by unfold maxLen; omega) (by omega) hlo fun v' w' h2 h3 _ => h v' w' ?_ h3
  · have hadd : (⟨b, 0, none⟩ : Addr).add j = ⟨b, 0 + j, none⟩ := by unfold Addr.add; split <;> simp_all
    rw [hadd, Nat.zero_add]
    match j, hj with
    | 0, hj => simp at hj; subst hj; exact h0
    | 1, hj => simp at hj; subst hj; exact h1
    | j + 2, hj => simp at hj
  · simp only [List.mem_cons, List.not_mem_nil, or_false] at hu
    rcases hu with rfl | rfl <;> rfl
  · have := Own.of_row h2
    unfold OwnC
    rw [cellVs_snoc, List.length_append]
    exact this

set_option maxRecDepth 100000 in
set_option maxHeartbeats 1000000 in
theorem specHasCell_any (v : Value) (cs : List (Int × Int)) (c : Int × Int) (w : World) (h : RdC w v cs) :
    Calls Try.prog 61 #[v, .agg #[.int .i64 c.1, .int .i64 c.2]] w fun e w' => e = .returned (.bool (decide (c ∈ cs))) ∧ Below w.heap.size w w' := by
  obtain ⟨p, cap, rfl, ⟨hx1, hx2⟩, hxc⟩ := h
  unfold maxLen at hx2
  have Hxc := Lib.hid hxc
  clear hxc
  obtain ⟨r, d⟩ := c
  dsimp only
  have z0 := heap_alloc_top w (.cells #[.int .i64 r, .int .i64 d] 55)
  go_enter Try.func61, Try.ntmps61
  go_wp2_with fail
  go_loopg [5] cs.length (fun g s5 wr => ∃ k : Nat, k ≤ cs.length ∧ g = cs.length - k ∧ s5 = .int .i64 k ∧ Qt (w.alloc (.cells #[.int .i64 r, .int .i64 d] 55)) wr ∧ Hid ((r, d) ∉ cs.take k))
  case atStart => exact ⟨0, Nat.zero_le _, rfl, rfl, Qt.refl _, by simp [Hid]⟩
  case round =>
    obtain ⟨k, hk, rfl, rfl, hq, hno⟩ := hrel
    by_cases hlt : k < cs.length
    · obtain ⟨b, rfl, hc⟩ := Hxc.out (by omega)
      have c1 := hq.cell (show (w.alloc _).cell? _ = some _ by rw [(below_alloc w _).cell (World.block_lt_of_cell? w _ (hc k hlt).1)]; exact (hc k hlt).1)
      have c2 := hq.cell (show (w.alloc _).cell? _ = some _ by rw [(below_alloc w _).cell (World.block_lt_of_cell? w _ (hc k hlt).2)]; exact (hc k hlt).2)
      have x1 : wr.cell? ⟨w.heap.size, 0, none⟩ = some (.int .i64 r) := hq.cell (cell_of_blk z0 (j := 0) rfl)
      have x2 : wr.cell? ⟨w.heap.size, 1, none⟩ = some (.int .i64 d) := hq.cell (cell_of_blk z0 (j := 1) rfl)
      obtain ⟨e, he⟩ : ∃ e, e = cs.getD k (0, 0) := ⟨_, rfl⟩
      rw [← he] at c1 c2
      have ht : cs.take (k + 1) = cs.take k ++ [e] := by rw [he, List.take_add_one, List.getElem?_eq_getElem hlt, List.getD_eq_getElem?_getD, List.getElem?_eq_getElem hlt]; rfl
      obtain ⟨X, Y⟩ := e
      dsimp only at c1 c2
      have Ht := Lib.hid ht
      clear hc he ht z0
      have hmem : (X, Y) ∈ cs := List.mem_of_mem_take (i := k + 1) (by rw [Ht.out]; simp)
      have Hmem := Lib.hid hmem
      clear hmem
      by_cases e1 : X = r
      · subst e1
        by_cases e2 : Y = d
        · subst e2
          go_wp2_with fail
          go_quiet (fail)
          go_wp2_with fail
          go_ret
          exact ⟨ret_bool (by simp [Hmem.out]), (below_alloc _ _).trans ((hq.drewN _).below _)⟩
        · have e3 : (Y == d) = false := by simp [e2]
          go_wp2_with fail
          go_quiet (fail)
          go_wp2_with fail
          go_roundg (cs.length - (k + 1))
          case measure => omega
          case rel =>
            refine ⟨k + 1, by omega, rfl, by go_num, hq.drewN _, ?_⟩
            show _ ∉ cs.take (k + 1)
            rw [Ht.out, List.mem_append]
            rintro (h | h)
            · exact hno h
            · simp at h; exact e2 h.symm
      · have e3 : (X == r) = false := by simp [e1]
        go_wp2_with fail
        go_quiet (fail)
        go_wp2_with fail
        go_roundg (cs.length - (k + 1))
        case measure => omega
        case rel =>
          refine ⟨k + 1, by omega, rfl, by go_num, hq.drewN _, ?_⟩
          show _ ∉ cs.take (k + 1)
          rw [Ht.out, List.mem_append]
          rintro (h | h)
          · exact hno h
          · simp at h; exact e1 h.1.symm
    · have hk' : k = cs.length := by omega
      subst hk'
      rw [List.take_of_length_le (Nat.le_refl _)] at hno
      go_wp2_with fail
      go_ret
      exact ⟨ret_bool (by simp [hno.out]), (below_alloc _ _).trans (hq.below _)⟩

end Go.Proofs.Ytejoapielndnnaa
