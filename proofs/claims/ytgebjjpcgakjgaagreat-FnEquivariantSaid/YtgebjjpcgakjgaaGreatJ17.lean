/-
  FlagsWith: all flags in normal form with a permutation.
  append(x, make([]int, m)...) on a slice that the call made: laws over any program.
  Rows, each in a block of its own, while one of them grows in its own block.
  The rows and the free places of the spaces with a string: plain; strings.
  Shapes and strings: shortened, ShapeOfString, DualShape, ContainsShape.
  The rows of a shape in a box; a row by its value.
  GrassmannianPerm, StringOfShape.
  The shapes in a box: spec.ShapesIn, laws.boxShapes.
  The shapes in a box as the program makes them, their sums, the numbers of spaces.
-/
import Derived.Test.YtgebjjpcgakjgaaGreatJ16
import Derived.Test.YtgebjjpcgakjgaaGreatJ10
import Derived.Test.YtgebjjpcgakjgaaGreatJ2
import Derived.Test.YtgebjjpcgakjgaaGreatJ3
import Derived.Lib.OwnKind
namespace Go.Proofs.YtgebjjpcgakjgaaGreat
set_option linter.all false
open Go.RowKit

theorem flat_lt3 {n C i c : Nat} (hi : i < n) (hc : c < C) : i * C + c < n * C := by
  have : (i + 1) * C ≤ n * C := Nat.mul_le_mul_right C hi
  rw [Nat.succ_mul] at this
  omega
/-- the first numbers of a list, as a slice -/
theorem ints_takeP {w : World} {p : Option Addr} {cap : Nat} {xs : List Int} (h : Ints w (.slice p xs.length cap) xs) {i : Nat} (hi : i ≤ xs.length) : Ints w (.slice p i cap) (xs.take i) := by
  obtain ⟨q, c, e, ⟨h1, h2⟩, h3⟩ := h
  injection e with e1 e2 e3
  subst e1 e3
  have hl : (xs.take i).length = i := by rw [List.length_take]; omega
  refine ⟨p, cap, by rw [hl], ⟨by omega, h2⟩, fun h0 => ?_⟩
  obtain ⟨b, off, hp, hx⟩ := h3 (by omega)
  refine ⟨b, off, hp, fun j hj => ?_⟩
  rw [hx j (by omega)]
  unfold iv
  rw [List.getD_eq_getElem?_getD, List.getD_eq_getElem?_getD, List.getElem?_take_of_lt (by omega)]

/-- the free places of row i, up to column j -/
def flG (xs : List Int) (i j : Nat) : List Nat := ((List.range j).filter fun (c : Nat) => decide (xs.getD i 0 < (c : Int)) && !decide ((c : Int) ∈ xs.take i)).map fun (c : Nat) => i * xs.length + c
def flF (xs : List Int) (i : Nat) : List Nat := (List.range i).flatMap fun r => flG xs r xs.length
theorem flG_start (xs : List Int) (i m : Nat) (h : xs.getD i 0 = (m : Int)) : flG xs i (m + 1) = [] := by
  unfold flG
  rw [List.filter_eq_nil_iff.2 ?_]; rfl
  intro c hc
  have := List.mem_range.1 hc
  rw [h]
  simp; intro h2; omega
theorem flG_no (xs : List Int) (i j : Nat) (h2 : (j : Int) ∈ xs.take i) : flG xs i (j + 1) = flG xs i j := by
  unfold flG; rw [List.range_succ, List.filter_append]; simp [h2]
theorem flG_yes (xs : List Int) (i j : Nat) (h : xs.getD i 0 < (j : Int)) (h2 : ¬ (j : Int) ∈ xs.take i) : flG xs i (j + 1) = flG xs i j ++ [i * xs.length + j] := by
  unfold flG; rw [List.range_succ, List.filter_append]
  have e : List.filter (fun (c : Nat) => decide (xs.getD i 0 < (c : Int)) && !decide ((c : Int) ∈ xs.take i)) [j] = [j] := by
    rw [List.filter_cons, if_pos (by rw [decide_eq_true h, decide_eq_false h2]; rfl)]; rfl
  rw [e]; simp
theorem flG_len (xs : List Int) (i j : Nat) : (flG xs i j).length ≤ j := by
  unfold flG
  rw [List.length_map]
  exact Nat.le_trans (List.length_filter_le _ _) (by simp)
theorem flF_succ (xs : List Int) (i : Nat) : flF xs (i + 1) = flF xs i ++ flG xs i xs.length := flatMap_snoc _ _
theorem flF_len (xs : List Int) (h7 : xs.length ≤ 7) (i : Nat) : (flF xs i).length ≤ i * 7 := flatMap_len _ 7 (fun r => Nat.le_trans (flG_len xs r xs.length) h7) i
theorem flG_mem {xs : List Int} {i j t : Nat} (hi : i < xs.length) (hj : j ≤ xs.length) (h : t ∈ flG xs i j) : t < xs.length * xs.length := by
  unfold flG at h
  obtain ⟨c, hc, rfl⟩ := List.mem_map.1 h
  have := List.mem_range.1 (List.mem_filter.1 hc).1
  exact flat_lt3 hi (by omega)
theorem flF_mem {xs : List Int} {t : Nat} (h : t ∈ flF xs xs.length) : t < xs.length * xs.length := by
  unfold flF at h
  obtain ⟨r, hr, ht⟩ := List.mem_flatMap.1 h
  exact flG_mem (List.mem_range.1 hr) (Nat.le_refl _) ht

/-- all matrices with numbers at free places, if they are not too many -/
def fillB (p : Int) (R C : Int) (D : List Int) (free : List Nat) : List Mx × Bool := if p.toNat ^ free.length ≤ 400 then (fillMs p.toNat R C D free (p.toNat ^ free.length), true) else ([], false)
def flMs (p : Int) (xs : List Int) : List Mx × Bool := if primeOk p && permOk xs then fillB p xs.length xs.length (permRows xs).flatten (flF xs xs.length) else ([], false)
theorem flMs_no {p : Int} {xs : List Int} (h : primeOk p = false ∨ permOk xs = false) : flMs p xs = ([], false) := by
  unfold flMs; rcases h with h | h <;> simp [h]
theorem flMs_yes {p : Int} {xs : List Int} (h : primeOk p = true) (h2 : permOk xs = true) : flMs p xs = fillB p xs.length xs.length (permRows xs).flatten (flF xs xs.length) := by
  unfold flMs; simp [h, h2]
theorem preM_bound (ms : List Mx) (h : ∀ m ∈ ms, m.D.length ≤ 49) : preM ms ms.length ≤ ms.length * 52 := by
  unfold preM
  rw [List.take_of_length_le (Nat.le_refl _)]
  induction ms with
  | nil => simp
  | cons m ms ih =>
    have h1 := h m (List.mem_cons_self)
    have h2 := ih fun x hx => h x (List.mem_cons_of_mem _ hx)
    simp only [List.map_cons, List.sum_cons, List.length_cons]
    omega
theorem fillB_len (p R C : Int) (D : List Int) (free : List Nat) (hD : D.length ≤ 49) : preM (fillB p R C D free).1 (fillB p R C D free).1.length ≤ 1000000 := by
  unfold fillB
  split
  · rename_i h
    have h1 := preM_bound (fillMs p.toNat R C D free (p.toNat ^ free.length)) fun m hm => by
      obtain ⟨x, _, rfl⟩ := List.mem_map.1 hm
      show (fillSt p.toNat D free x free.length).1.length ≤ 49
      rw [fillSt_length]; exact hD
    dsimp only
    rw [fillMs_length] at h1 ⊢
    omega
  · simp [preM]
theorem flMs_len (p : Int) (xs : List Int) : preM (flMs p xs).1 (flMs p xs).1.length ≤ 1000000 := by
  unfold flMs
  split
  · rename_i h
    simp only [Bool.and_eq_true] at h
    obtain ⟨_, h7, _⟩ := of_decide_eq_true h.2
    exact fillB_len _ _ _ _ _ (by rw [permRows_flat_length]; exact Nat.mul_le_mul h7 h7)
  · simp [preM]
end Go.Proofs.YtgebjjpcgakjgaaGreat

namespace Go.Proofs.YtgebjjpcgakjgaaGreat
set_option linter.all false
open Go.RowKit

theorem run_append_make_own {P : Program} (w : World) (base : Nat) (t ti ty e : TypeId) (z : Value) (bytes : Nat) (ht : P.underlying t = some (.slice e)) (hti : P.underlying ti = some (.int .i64))
    (hinfo : (P.info? e).map (fun i => (i.zero, i.size, i.bytes)) = some (some z, 1, bytes)) (hzs : z.cells.size = 1) (hz1 : ∀ u ∈ z.cells.toList, u.oneCell' = true) (hb : bytes ≤ 1000) (hb0 : 0 < bytes)
    (v : Value) (n : Nat) (xs : List Value) (hown : w.ownsRow base e 1 v n xs) (m : Nat) (hm0 : 0 < m) (hnm : n + m ≤ 1000000) (hbase : base ≤ w.heap.size) :
    ∃ v' w', (Builtin.append_ #[t, ti] ty #[v, .int .i64 (m : Int)]).run P w = .ok v' w' ∧ w'.ownsRow base e 1 v' (n + m) (xs ++ (Builtin.zeroCells z.cells m).toList) ∧ w.grownBy w' v.ownBlock ∧
      (∀ b, v'.ownBlock = some b → v.ownBlock = some b ∨ w.heap.size ≤ b) := by
  obtain ⟨i, hi, hz, hsz, hby⟩ := info_parts hinfo
  have hlen : (xs ++ (Builtin.zeroCells z.cells m).toList).length = (n + m) * 1 := by
    rw [List.length_append, hown.1, Array.length_toList, size_zeroCells, hzs]; omega
  have hzl : (Builtin.zeroCells z.cells m).toList.length = m := by rw [Array.length_toList, size_zeroCells, hzs]; omega
  have hwr : IntKind.i64.wrap (m : Int) = (m : Int) := k64 (by omega) (by omega)
  have hmb : m * bytes ≤ 1000000 * 1000 := Nat.mul_le_mul (by omega) hb
  have h1 : ¬ ((m : Int) < 0) := by omega
  have hm : m ≠ 0 := by omega
  have h4 : ¬ (281474976710656 < (m : Int) * (i.bytes : Int)) := by
    rw [hby]
    have : ((m * bytes : Nat) : Int) = (m : Int) * (bytes : Int) := Int.natCast_mul _ _
    omega
  rcases hown.2 with ⟨rfl, rfl⟩ | ⟨g, cap, cur, rfl, hbg, hg, hnc, hcm, hcs, htake⟩
  · have hx : xs = [] := List.eq_nil_of_length_eq_zero (by simpa using hown.1)
    subst hx
    have hge := grownCap_ge w m 0 e
    have hle := grownCap_le_maxLen w m 0 e (by unfold maxLen; omega)
    have h3 : ¬ (281474976710656 < Builtin.nextslicecap m 0 * i.bytes) := by rw [nextslicecap_zero (by omega), hby]; omega
    have h5 : ¬ (9223372036854775807 < (m : Int)) := by omega
    refine ⟨.slice (some ⟨w.heap.size, 0, none⟩) m (grownCap w m 0 e), w.drew.alloc (.cells (Builtin.zeroCells z.cells m ++ Builtin.zeroCells z.cells (grownCap w m 0 e - m)) e), ?_, ?_, ?_, fun b hb => .inr ?_⟩
    · simp [Builtin.append_, run_underlying ht, run_underlying hti, sizeOf, typeInfo, zeroValue, hi, hz, hsz, Builtin.firstCells, asInt, asIntOf, hwr, h1, h3, h4, h5, hm, Question.forced, newRow, grownCap, loadCells, loadCellsFrom]
    · rw [Nat.zero_add] at hlen ⊢
      refine ⟨hlen, .inr ⟨w.heap.size, _, _, rfl, hbase, heap_alloc_new w.drew _, hge, hle, ?_, ?_⟩⟩
      · simp only [Array.size_append, size_zeroCells, hzs]; omega
      · simp only [Array.toList_append, List.nil_append]
        rw [List.take_left' (by rw [hzl]; omega)]
    · exact ⟨rfl, rfl, rfl, by simp, fun k hk _ => heap_alloc_old w.drew _ hk⟩
    · simp only [Value.ownBlock, Option.some.injEq] at hb; omega
  · have hnews1 : ∀ u ∈ (Builtin.zeroCells z.cells m).toList, u.oneCell' = true := fun u hu => by
      rw [Array.mem_toList_iff] at hu
      simp only [Builtin.zeroCells, Array.mem_map, Array.mem_range] at hu
      obtain ⟨k, hk, rfl⟩ := hu
      rw [hzs, Nat.mod_one]
      have h0 : 0 < z.cells.size := by omega
      rw [getElem!_pos z.cells 0 h0]
      exact hz1 _ (Array.mem_toList_iff.2 (Array.getElem_mem _))
    by_cases hroom : n + m ≤ cap
    · have hfit : n * 1 + (Builtin.zeroCells z.cells m).toList.length ≤ cur.size := by rw [hzl, hcs]; omega
      have hst := run_storeCells_at P g (n * 1) e (Builtin.zeroCells z.cells m).toList 0 cur w hg (by simpa using hfit) hnews1
      simp only [Nat.add_zero, Nat.mul_one] at hst hfit
      refine ⟨.slice (some ⟨g, 0, none⟩) (n + m) cap, w.setRow g (cur.toList.take n ++ (Builtin.zeroCells z.cells m).toList ++ cur.toList.drop (n + (Builtin.zeroCells z.cells m).toList.length)).toArray, ?_, ?_, ?_, fun b hb => .inl hb⟩
      · simp [Builtin.append_, run_underlying ht, run_underlying hti, sizeOf, typeInfo, zeroValue, hi, hz, hsz, asInt, asIntOf, hwr, h1, h4, hm, hroom, Addr.add_lit, hst]
      · refine ⟨hlen, .inr ⟨g, cap, _, rfl, hbg, setRow_heap w g cur _ e _ hg, hroom, hcm, ?_, ?_⟩⟩
        · simp only [List.size_toArray, List.length_append, List.length_take, List.length_drop, Array.length_toList] at *
          omega
        · rw [Nat.mul_one] at htake
          rw [htake, ← hlen]
          exact List.take_left
      · exact ⟨rfl, rfl, rfl, by simp, fun k _ hk => setRow_other w g k _ (fun e => hk (by simp [Value.ownBlock, e]))⟩
    · have holds : ∀ j u, xs[j]? = some u → w.cell? ((⟨g, 0, none⟩ : Addr).add j) = some u := hown.cells (g := g) rfl
      have hge := grownCap_ge w (n + m) cap e
      have hle := grownCap_le_maxLen w (n + m) cap e (by unfold maxLen; omega)
      have hfo := run_firstCells_some (P := P) w.drew 1 n ⟨g, 0, none⟩ n cap xs hown.1 (by simpa using holds)
      have h3 : ¬ (281474976710656 < Builtin.nextslicecap (n + m) cap * i.bytes) := by
        have := growslice_fits (need := n + m) (old := cap) (bytes := i.bytes) (by omega) (by rw [hby]; have := Nat.mul_le_mul hnm hb; omega)
        omega
      have h5 : ¬ (9223372036854775807 < (n : Int) + (m : Int)) := by omega
      refine ⟨.slice (some ⟨w.heap.size, 0, none⟩) (n + m) (grownCap w (n + m) cap e), w.drew.alloc (.cells (xs.toArray ++ Builtin.zeroCells z.cells m ++ Builtin.zeroCells z.cells (grownCap w (n + m) cap e - (n + m))) e), ?_, ?_, ?_, fun b hb => .inr ?_⟩
      · simp [Builtin.append_, run_underlying ht, run_underlying hti, sizeOf, typeInfo, zeroValue, hi, hz, hsz, asInt, asIntOf, hwr, h1, h3, h4, h5, hm, hroom, Question.forced, hfo, newRow, grownCap]
      · refine ⟨hlen, .inr ⟨w.heap.size, _, _, rfl, hbase, heap_alloc_new w.drew _, hge, hle, ?_, ?_⟩⟩
        · have := hown.1
          simp only [Array.size_append, List.size_toArray, size_zeroCells, hzs]; omega
        · simp only [Array.toList_append, List.append_assoc]
          rw [← List.append_assoc, ← hlen]
          exact List.take_left
      · exact ⟨rfl, rfl, rfl, by simp, fun k hk _ => heap_alloc_old w.drew _ hk⟩
      · simp only [Value.ownBlock, Option.some.injEq] at hb; omega

theorem zeroCells_get {z : Value} (hzs : z.cells.size = 1) {m j : Nat} (hj : j < m) : (Builtin.zeroCells z.cells m).toList[j]? = some (z.cells[0]!) := by
  simp [Builtin.zeroCells, hzs, hj, Nat.mod_one]
/-- .. the content said by the index -/
theorem run_append_make_F {P : Program} (w : World) (t ti ty e : TypeId) (z : Value) (bytes : Nat) (ht : P.underlying t = some (.slice e)) (hti : P.underlying ti = some (.int .i64))
    (hinfo : (P.info? e).map (fun i => (i.zero, i.size, i.bytes)) = some (some z, 1, bytes)) (hzs : z.cells.size = 1) (hz1 : ∀ u ∈ z.cells.toList, u.oneCell' = true) (hb : bytes ≤ 1000) (hb0 : 0 < bytes)
    (lo hi' : Nat) (v : Value) (n : Nat) (f : Nat → Value) (hown : OwnF w lo hi' e v n f) (hlo : lo ≤ w.heap.size) (hhi : hi' ≤ w.heap.size) (m : Nat) (hm0 : 0 < m) (hnm : n + m ≤ 1000000) :
    ∃ v' w', (Builtin.append_ #[t, ti] ty #[v, .int .i64 (m : Int)]).run P w = .ok v' w' ∧ OwnF w' lo w'.heap.size e v' (n + m) (fun j => if j < n then f j else z.cells[0]!) ∧ w.grownBy w' v.ownBlock ∧
      (∀ b, v'.ownBlock = some b → v.ownBlock = some b ∨ w.heap.size ≤ b) := by
  obtain ⟨xs, ho, hf⟩ := hown
  obtain ⟨v', w', hr, h2, h3, h4⟩ := run_append_make_own (P := P) w lo t ti ty e z bytes ht hti hinfo hzs hz1 hb hb0 v n xs ho.1 m hm0 hnm hlo
  refine ⟨v', w', hr, ⟨_, Own.of_row h2, fun j hj => ?_⟩, h3, h4⟩
  have hl : xs.length = n := by have := ho.len; omega
  by_cases h : j < n
  · simp only [h, if_true]
    rw [List.getElem?_append_left (by omega), hf j h]
  · simp only [h, if_false]
    rw [List.getElem?_append_right (by omega), hl]
    exact zeroCells_get hzs (by omega)
theorem wpList_append_make_F {P : Program} {w : World} {ops : Array Oper} {rest : List Oper} {o : Oper} {a : Act} {Q : Exit → Act → World → Prop} (hgd : o.guard = none) (s x : Operand) (t ti : TypeId)
    (ho : o.op = .call { callee := .builtin .append, args := #[s, x], argTypes := #[t, ti] })
    (e : TypeId) (z : Value) (bytes : Nat) (ht : P.underlying t = some (.slice e)) (hti : P.underlying ti = some (.int .i64))
    (hinfo : (P.info? e).map (fun i => (i.zero, i.size, i.bytes)) = some (some z, 1, bytes)) (hzs : z.cells.size = 1) (hz1 : ∀ u ∈ z.cells.toList, u.oneCell' = true) (hb : bytes ≤ 1000) (hb0 : 0 < bytes)
    (lo hi' : Nat) (v : Value) (n : Nat) (f : Nat → Value) (hs : a.eval s = v) (hown : OwnF w lo hi' e v n f) (hlo : lo ≤ w.heap.size) (hhi : hi' ≤ w.heap.size) (m : Nat) (hx : a.eval x = .int .i64 (m : Int)) (hm0 : 0 < m) (hnm : n + m ≤ 1000000)
    (h : ∀ v' w', OwnF w' lo w'.heap.size e v' (n + m) (fun j => if j < n then f j else z.cells[0]!) → w.grownBy w' v.ownBlock → (∀ b, v'.ownBlock = some b → v.ownBlock = some b ∨ w.heap.size ≤ b) → wpList P ops Q rest (a.put o.dst v') w') :
    wpList P ops Q (o :: rest) a w := by
  refine wpList_plain hgd fun K hK' => ?_
  obtain ⟨v', w', hr, h2, h3, h4⟩ := run_append_make_F (P := P) w t ti o.type e z bytes ht hti hinfo hzs hz1 hb hb0 lo hi' v n f hown hlo hhi m hm0 hnm
  unfold Oper.wp
  simp [execOp, ho, resolve, invoke, builtin, hs, hx, hr, Result.andThen]
  exact hK' _ _ (h v' w' h2 h3 h4)
theorem step_append_make_F {P : Program} {w : World} {ops : Array Oper} {o : Oper} {a : Act} {K : Act → World → Prop} {Q : Exit → Act → World → Prop} {E : Prop} (hgd : o.guard = none) (s x : Operand) (t ti : TypeId)
    (ho : o.op = .call { callee := .builtin .append, args := #[s, x], argTypes := #[t, ti] })
    (e : TypeId) (z : Value) (bytes : Nat) (ht : P.underlying t = some (.slice e)) (hti : P.underlying ti = some (.int .i64))
    (hinfo : (P.info? e).map (fun i => (i.zero, i.size, i.bytes)) = some (some z, 1, bytes)) (hzs : z.cells.size = 1) (hz1 : ∀ u ∈ z.cells.toList, u.oneCell' = true) (hb : bytes ≤ 1000) (hb0 : 0 < bytes)
    (lo hi' : Nat) (v : Value) (n : Nat) (f : Nat → Value) (hs : a.eval s = v) (hown : OwnF w lo hi' e v n f) (hlo : lo ≤ w.heap.size) (hhi : hi' ≤ w.heap.size) (m : Nat) (hx : a.eval x = .int .i64 (m : Int)) (hm0 : 0 < m) (hnm : n + m ≤ 1000000)
    (h : ∀ v' w', OwnF w' lo w'.heap.size e v' (n + m) (fun j => if j < n then f j else z.cells[0]!) → w.grownBy w' v.ownBlock → (∀ b, v'.ownBlock = some b → v.ownBlock = some b ∨ w.heap.size ≤ b) → K (a.put o.dst v') w') :
    if Region.wanted o (yielded ops a.tmps) = true then Oper.wp P o a w K Q else E := by
  have hw : Region.wanted o (yielded ops a.tmps) = true := by simp [Region.wanted, hgd]
  rw [if_pos hw]
  obtain ⟨v', w', hr, h2, h3, h4⟩ := run_append_make_F (P := P) w t ti o.type e z bytes ht hti hinfo hzs hz1 hb hb0 lo hi' v n f hown hlo hhi m hm0 hnm
  unfold Oper.wp
  simp [execOp, ho, resolve, invoke, builtin, hs, hx, hr, Result.andThen]
  exact h v' w' h2 h3 h4

end Go.Proofs.YtgebjjpcgakjgaaGreat

namespace Go.Proofs.YtgebjjpcgakjgaaGreat
set_option linter.all false
open Go.RowKit

/-- what is owned with elements of two kinds lies in two blocks -/
theorem OwnF.apart {w : World} {lo hi lo' hi' : Nat} {T T' : TypeId} {v v' : Value} {n n' : Nat} {f f' : Nat → Value} (h : OwnF w lo hi T v n f) (h' : OwnF w lo' hi' T' v' n' f') (hT : T ≠ T') : ∀ k, v.ownBlock = some k → v'.ownBlock ≠ some k := by
  intro k h1 h2
  obtain ⟨xs, h, _⟩ := h
  obtain ⟨ys, h', _⟩ := h'
  obtain ⟨c, fz, e⟩ := Lib.ownsRow_kind h.1 k h1
  obtain ⟨c', fz', e'⟩ := Lib.ownsRow_kind h'.1 k h2
  rw [e] at e'
  injection e' with e'
  injection e' with _ e' _
  exact hT e'

theorem OwnI.grownI {w w' : World} {lo hi : Nat} {T : TypeId} {v u : Value} {xs : List Int} (h : OwnI T w lo hi v xs) (hg : w.grownBy w' u.ownBlock) (hne : ∀ k, v.ownBlock = some k → u.ownBlock ≠ some k) : OwnI T w' lo hi v xs :=
  ⟨ownsRow_of_block h.1 fun k hk => hg.block k (Own.block h hk).2.2 fun e => hne k hk e.symm, h.2⟩
/-- rows, each in a block of its own -/
def RowsN (w : World) (lo hi N : Nat) (f : Nat → Value) (L : Nat → List Int) : Prop :=
  (∀ i, i < N → OwnI 3 w lo hi (f i) (L i)) ∧ ∀ i j, i < N → j < N → i ≠ j → ∀ b, (f i).ownBlock = some b → (f j).ownBlock ≠ some b
theorem RowsN.mono {w : World} {lo hi hi' N : Nat} {f : Nat → Value} {L : Nat → List Int} (h : RowsN w lo hi N f L) (hh : hi ≤ hi') : RowsN w lo hi' N f L :=
  ⟨fun i hi => (h.1 i hi).mono (Nat.le_refl _) hh, h.2⟩
theorem RowsN.grown {w w' : World} {lo hi N lo' hi' n : Nat} {f g : Nat → Value} {L : Nat → List Int} {v : Value} (h : RowsN w lo hi N f L) (hv : OwnF w lo' hi' 24 v n g) (hg : w.grownBy w' v.ownBlock) : RowsN w' lo hi N f L :=
  ⟨fun i hi => OwnI.grownI (h.1 i hi) hg fun k hk => OwnF.apart (h.1 i hi).fn hv (by decide) k hk, h.2⟩
theorem RowsN.set {w w' : World} {lo hi N k : Nat} {f : Nat → Value} {L : Nat → List Int} {u : Value} {r : List Int} (h : RowsN w lo hi N f L) (hk : k < N) (hhi : hi ≤ w.heap.size) (ho : OwnI 3 w' lo w'.heap.size u r)
    (hg : w.grownBy w' (f k).ownBlock) (hn : ∀ b, u.ownBlock = some b → (f k).ownBlock = some b ∨ w.heap.size ≤ b) :
    RowsN w' lo w'.heap.size N (fun i => if i = k then u else f i) (fun i => if i = k then r else L i) := by
  have hs := hg.size
  refine ⟨fun i hi => ?_, fun i j hi hj hij b => ?_⟩
  · by_cases e : i = k
    · simp only [e, if_true]; exact ho
    · simp only [e, if_false]
      exact OwnI.mono (OwnI.grownI (h.1 i hi) hg fun b hb => (h.2 i k hi hk e b hb)) (Nat.le_refl _) (by omega)
  · by_cases e : i = k
    · subst e
      have e2 : ¬ j = i := fun e => hij e.symm
      simp only [e2, if_true, if_false]
      intro hb hb2
      rcases hn b hb with h1 | h1
      · exact h.2 i j hi hj hij b h1 hb2
      · have := OwnF.blocks (h.1 j hj).fn b hb2
        omega
    · by_cases e2 : j = k
      · subst e2
        simp only [e, if_true, if_false]
        intro hb hb2
        rcases hn b hb2 with h1 | h1
        · exact h.2 i j hi hj hij b hb h1
        · have := OwnF.blocks (h.1 i hi).fn b hb
          omega
      · simp only [e, e2, if_false]
        exact h.2 i j hi hj hij b

/-- the outer slice of what is built: still empty, wherever it lies, or owned from lo on -/
def OwnE (w : World) (lo hi : Nat) (T : TypeId) (v : Value) (n : Nat) (f : Nat → Value) : Prop := (n = 0 ∧ ∃ p, v = .slice p 0 0) ∨ OwnF w lo hi T v n f
/-- append onto it -/
theorem wpList_append_E {P : Program} {w : World} {ops : Array Oper} {rest : List Oper} {o : Oper} {a : Act} {Q : Exit → Act → World → Prop} (hgd : o.guard = none) (s x : Operand) (t : TypeId)
    (ho : o.op = .call { callee := .builtin .append, args := #[s, x], argTypes := #[t, t] })
    (e : TypeId) (z : Value) (bytes : Nat) (ht : P.underlying t = some (.slice e)) (hinfo : (P.info? e).map (fun i => (i.zero, i.size, i.bytes)) = some (some z, 1, bytes)) (hzs : z.cells.size = 1)
    (lo hi' : Nat) (v : Value) (n : Nat) (f : Nat → Value) (hs : a.eval s = v) (hown : OwnE w lo hi' e v n f) (hlo : lo ≤ w.heap.size) (hhi : hi' ≤ w.heap.size)
    (u : Value) (m : Nat) (g : Nat → Value) (hxu : a.eval x = u) (hx : Rd w u m g) (h0 : 0 < m) (h1 : ∀ j, j < m → (g j).oneCell' = true) (h63 : n + m ≤ maxLen) (hbytes : (n + m) * bytes ≤ 140737488355328)
    (h : ∀ v' w', OwnF w' lo w'.heap.size e v' (n + m) (fun j => if j < n then f j else g (j - n)) → (Below w.heap.size w w' ∨ (OwnF w lo hi' e v n f ∧ w.grownBy w' v.ownBlock)) → wpList P ops Q rest (a.put o.dst v') w') :
    wpList P ops Q (o :: rest) a w := by
  rcases hown with ⟨rfl, p, rfl⟩ | hown
  · refine wpList_append_fresh hgd s x t ho e z bytes ht hinfo hzs p hs u m g hxu hx h0 (by omega) (by simpa using hbytes) fun v' w' h2 h3 => h v' w' ?_ (.inl h3)
    rw [Nat.zero_add]
    exact (h2.mono hlo (Nat.le_refl _)).congr fun j _ => by simp
  · exact wpList_append_F hgd s x t ho e z bytes ht hinfo hzs lo hi' v n f hs hown hlo hhi u m g hxu hx h1 h63 hbytes fun v' w' h2 h3 => h v' w' h2 (.inr ⟨hown, h3⟩)
/-- what lies below lo stays -/
theorem ownE_below {w w' : World} {lo hi n : Nat} {T : TypeId} {v : Value} {f : Nat → Value} (hlo : lo ≤ w.heap.size) (h : Below w.heap.size w w' ∨ (OwnF w lo hi T v n f ∧ w.grownBy w' v.ownBlock)) : Below lo w w' := by
  rcases h with h | ⟨h, hg⟩
  · exact h.mono hlo
  · exact grownBy_below hg h.blocks (Nat.le_refl _) hlo
/-- and so do rows in blocks of their own -/
theorem RowsN.appE {w w' : World} {lo hi N lo' hi' n : Nat} {f g : Nat → Value} {L : Nat → List Int} {v : Value} (h : RowsN w lo hi N f L) (hg : Below w.heap.size w w' ∨ (OwnF w lo' hi' 24 v n g ∧ w.grownBy w' v.ownBlock)) : RowsN w' lo hi N f L := by
  rcases hg with hg | ⟨h1, h2⟩
  · exact ⟨fun i hi => (h.1 i hi).below hg, h.2⟩
  · exact h.grown h1 h2

theorem RowsN.congr {w : World} {lo hi N : Nat} {f f' : Nat → Value} {L L' : Nat → List Int} (h : RowsN w lo hi N f L) (hf : ∀ i, i < N → f' i = f i) (hL : ∀ i, i < N → L' i = L i) : RowsN w lo hi N f' L' :=
  ⟨fun i hi => by rw [hf i hi, hL i hi]; exact h.1 i hi, fun i j hi hj hij => by rw [hf i hi, hf j hj]; exact h.2 i j hi hj hij⟩
theorem RowsN.below {w w' : World} {lo hi N : Nat} {f : Nat → Value} {L : Nat → List Int} (h : RowsN w lo hi N f L) (hb : Below w.heap.size w w') : RowsN w' lo hi N f L :=
  ⟨fun i hi => (h.1 i hi).below hb, h.2⟩
/-- one row more, made later -/
theorem RowsN.snoc {w : World} {lo mid hi N : Nat} {f : Nat → Value} {L : Nat → List Int} {x : Value} {r : List Int} (h : RowsN w lo mid N f L) (hx : OwnI 3 w mid hi x r) (hm : lo ≤ mid) (hmh : mid ≤ hi) :
    RowsN w lo hi (N + 1) (fun i => if i < N then f i else x) (fun i => if i < N then L i else r) := by
  refine ⟨fun i hi => ?_, fun i j hi hj hij b => ?_⟩
  · by_cases e : i < N
    · simp only [e, if_true]; exact (h.1 i e).mono (Nat.le_refl _) hmh
    · simp only [e, if_false]; exact hx.mono hm (Nat.le_refl _)
  · by_cases e : i < N
    · by_cases e2 : j < N
      · simp only [e, e2, if_true]
        exact h.2 i j e e2 hij b
      · simp only [e, e2, if_true, if_false]
        intro hb hb2
        have := OwnF.blocks (h.1 i e).fn b hb
        have := OwnF.blocks hx.fn b hb2
        omega
    · by_cases e2 : j < N
      · simp only [e, e2, if_true, if_false]
        intro hb hb2
        have := OwnF.blocks (h.1 j e2).fn b hb2
        have := OwnF.blocks hx.fn b hb
        omega
      · omega
/-- two lots of rows, the second made later -/
theorem RowsN.join {w : World} {lo mid hi N M : Nat} {f g : Nat → Value} {L K : Nat → List Int} (h : RowsN w lo mid N f L) (hx : RowsN w mid hi M g K) (hm : lo ≤ mid) (hmh : mid ≤ hi) :
    RowsN w lo hi (N + M) (fun i => if i < N then f i else g (i - N)) (fun i => if i < N then L i else K (i - N)) := by
  refine ⟨fun i hi => ?_, fun i j hi hj hij b => ?_⟩
  · by_cases e : i < N
    · simp only [e, if_true]; exact (h.1 i e).mono (Nat.le_refl _) hmh
    · simp only [e, if_false]; exact (hx.1 _ (by omega)).mono hm (Nat.le_refl _)
  · by_cases e : i < N
    · by_cases e2 : j < N
      · simp only [e, e2, if_true]
        exact h.2 i j e e2 hij b
      · simp only [e, e2, if_true, if_false]
        intro hb hb2
        have := OwnF.blocks (h.1 i e).fn b hb
        have := OwnF.blocks (hx.1 (j - N) (by omega)).fn b hb2
        omega
    · by_cases e2 : j < N
      · simp only [e, e2, if_true, if_false]
        intro hb hb2
        have := OwnF.blocks (h.1 j e2).fn b hb2
        have := OwnF.blocks (hx.1 (i - N) (by omega)).fn b hb
        omega
      · simp only [e, e2, if_false]
        exact hx.2 _ _ (by omega) (by omega) (by omega) b
/-- a list of rows, taken apart -/
theorem OwnII.rowsN {w : World} {lo hi : Nat} {v : Value} {rows : List (List Int)} (h : OwnII 24 3 w lo hi v rows) : ∃ f, OwnF w lo hi 24 v rows.length f ∧ RowsN w lo hi rows.length f fun i => rows.getD i [] := by
  obtain ⟨f, h1, h2, h3⟩ := h
  refine ⟨f, h1, h2, fun i j hi hj hij b hb hb2 => ?_⟩
  rcases Nat.lt_or_gt_of_ne hij with e | e
  · exact h3 i j e hj b hb hb2
  · exact h3 j i e hi b hb2 hb
/-- .. and together -/
theorem RowsN.rd {w : World} {lo hi lo' hi' : Nat} {v : Value} {rows : List (List Int)} {f : Nat → Value} {L : Nat → List Int} (h : RowsN w lo hi rows.length f L) (hv : OwnE w lo' hi' 24 v rows.length f) (hL : ∀ i, i < rows.length → L i = rows.getD i []) : RdII w v rows := by
  refine ⟨f, ?_, fun i hi => by rw [← hL i hi]; exact (h.1 i hi).ints⟩
  rcases hv with ⟨e, p, rfl⟩ | hv
  · rw [e]
    exact ⟨p, 0, rfl, ⟨Nat.le_refl _, Nat.zero_le _⟩, fun h => absurd h (Nat.lt_irrefl _)⟩
  · exact hv.rd

/-! ### two loops: rows are put behind rows, and the second lot grows in place -/

theorem OwnE.keepB {w w' : World} {lo hi n B : Nat} {T : TypeId} {v : Value} {f : Nat → Value} (h : OwnE w lo hi T v n f) (hb : Below B w w') (hh : hi ≤ B) : OwnE w' lo hi T v n f := by
  rcases h with h | h
  · exact .inl h
  · exact .inr (h.keep fun k _ h2 _ => hb.block k (by omega))
theorem RowsN.keepB {w w' : World} {lo hi N B : Nat} {f : Nat → Value} {L : Nat → List Int} (h : RowsN w lo hi N f L) (hb : Below B w w') (hh : hi ≤ B) : RowsN w' lo hi N f L :=
  ⟨fun i hi => Own.keep (h.1 i hi) fun k _ h2 _ => hb.block k (by omega), h.2⟩

/-- one round of the first loop, put together -/
theorem RowsN.round1 {wr W w8 : World} {lo k : Nat} {fo : Nat → Value} {L : Nat → List Int} {s6 v7 : Value} {r : List Int} (hN : RowsN wr lo wr.heap.size k fo L) (hlo : lo ≤ wr.heap.size)
    (hW : Below wr.heap.size wr W) (ho7 : OwnI 3 W wr.heap.size W.heap.size v7 r)
    (hg : Below W.heap.size W w8 ∨ (OwnF W lo wr.heap.size 24 s6 k fo ∧ W.grownBy w8 s6.ownBlock)) :
    RowsN w8 lo w8.heap.size (k + 1) (fun j => if j < k then fo j else v7) (fun j => if j < k then L j else r) ∧ Below lo wr w8 := by
  have hs := hW.size
  have hb8 := ownE_below (by omega) hg
  have hs8 := hb8.size
  exact ⟨((RowsN.snoc (hN.keepB hW (Nat.le_refl _)) ho7 hlo hs).appE hg).mono hs8, (hW.mono hlo).trans hb8⟩

/-- as OwnE, and it does not lie where t lies -/
def OwnE2 (w : World) (lo hi : Nat) (T : TypeId) (v : Value) (n : Nat) (f : Nat → Value) (t : Value) : Prop := (n = 0 ∧ ∃ p, v = .slice p 0 0) ∨ (OwnF w lo hi T v n f ∧ ∀ b, v.ownBlock = some b → t.ownBlock ≠ some b)
def App2 (w w' : World) (lo hi : Nat) (T : TypeId) (v v' : Value) (n : Nat) (f : Nat → Value) (t : Value) : Prop :=
  (Below w.heap.size w w' ∧ ∀ b, v'.ownBlock = some b → w.heap.size ≤ b) ∨ (OwnF w lo hi T v n f ∧ (∀ b, v.ownBlock = some b → t.ownBlock ≠ some b) ∧ w.grownBy w' v.ownBlock ∧ ∀ b, v'.ownBlock = some b → v.ownBlock = some b ∨ w.heap.size ≤ b)
/-- append onto it -/
theorem wpList_append_E2 {P : Program} {w : World} {ops : Array Oper} {rest : List Oper} {o : Oper} {a : Act} {Q : Exit → Act → World → Prop} (hgd : o.guard = none) (s x : Operand) (t : TypeId)
    (ho : o.op = .call { callee := .builtin .append, args := #[s, x], argTypes := #[t, t] })
    (e : TypeId) (z : Value) (bytes : Nat) (ht : P.underlying t = some (.slice e)) (hinfo : (P.info? e).map (fun i => (i.zero, i.size, i.bytes)) = some (some z, 1, bytes)) (hzs : z.cells.size = 1)
    (lo hi' : Nat) (v : Value) (n : Nat) (f : Nat → Value) (tB : Value) (hs : a.eval s = v) (hown : OwnE2 w lo hi' e v n f tB) (hlo : lo ≤ w.heap.size) (hhi : hi' ≤ w.heap.size)
    (u : Value) (m : Nat) (g : Nat → Value) (hxu : a.eval x = u) (hx : Rd w u m g) (h0 : 0 < m) (h1 : ∀ j, j < m → (g j).oneCell' = true) (h63 : n + m ≤ maxLen) (hbytes : (n + m) * bytes ≤ 140737488355328)
    (h : ∀ v' w', OwnF w' lo w'.heap.size e v' (n + m) (fun j => if j < n then f j else g (j - n)) → App2 w w' lo hi' e v v' n f tB → wpList P ops Q rest (a.put o.dst v') w') :
    wpList P ops Q (o :: rest) a w := by
  rcases hown with ⟨rfl, p, rfl⟩ | ⟨hown, hne⟩
  · refine wpList_append_fresh hgd s x t ho e z bytes ht hinfo hzs p hs u m g hxu hx h0 (by omega) (by simpa using hbytes) fun v' w' h2 h3 => h v' w' ?_ (.inl ⟨h3, fun b hb => (h2.blocks b hb).1⟩)
    rw [Nat.zero_add]
    exact (h2.mono hlo (Nat.le_refl _)).congr fun j _ => by simp
  · exact wpList_append_G hgd s x t ho e z bytes ht hinfo hzs lo hi' v n f hs hown hlo hhi u m g hxu hx h1 h63 hbytes fun v' w' h2 h3 h4 => h v' w' h2 (.inr ⟨hown, hne, h3, h4⟩)

/-- what stands at the head of the second loop: the outer slice s, the rows (of which the last still lie in t alone) -/
def Lot (w : World) (lo : Nat) (s t : Value) (ra rb k : Nat) (fB : Nat → Value) (L : Nat → List Int) : Prop :=
  ∃ fo, OwnE2 w lo w.heap.size 24 s (ra + k) fo t ∧ RowsN w lo w.heap.size (ra + rb) fo L ∧ OwnF w lo w.heap.size 24 t rb fB ∧ ∀ i, k ≤ i → i < rb → fo (ra + i) = fB i
theorem Lot.row {w : World} {lo ra rb k : Nat} {s t : Value} {fB : Nat → Value} {L : Nat → List Int} (h : Lot w lo s t ra rb k fB L) (hk : k < rb) : OwnI 3 w lo w.heap.size (fB k) (L (ra + k)) := by
  obtain ⟨fo, _, h2, _, h4⟩ := h
  rw [← h4 k (Nat.le_refl _) hk]
  exact h2.1 _ (by omega)
/-- the two lots, as they come from what was made -/
theorem Lot.start {wr w9 : World} {lo ra : Nat} {s t : Value} {fo : Nat → Value} {LA : Nat → List Int} {rows : List (List Int)} (hlo : lo ≤ wr.heap.size) (hE : OwnE wr lo wr.heap.size 24 s ra fo) (hN : RowsN wr lo wr.heap.size ra fo LA)
    (hb : Below wr.heap.size wr w9) (hB : OwnII 24 3 w9 wr.heap.size w9.heap.size t rows) :
    ∃ fB, Lot w9 lo s t ra rows.length 0 fB (fun i => if i < ra then LA i else rows.getD (i - ra) []) := by
  obtain ⟨fB, hB1, hB2⟩ := hB.rowsN
  have hs := hb.size
  refine ⟨fB, fun i => if i < ra then fo i else fB (i - ra), ?_, (hN.keepB hb (Nat.le_refl _)).join hB2 hlo hs, hB1.mono hlo (Nat.le_refl _), fun i _ hi => ?_⟩
  · rcases hE with hE | hE
    · exact .inl hE
    · refine .inr ⟨((hE.keep fun k _ h2 _ => hb.block k h2).mono (Nat.le_refl _) hs).congr fun j hj => ?_, fun b h1 h2 => ?_⟩
      · simp only [show j < ra by omega, if_true]
      · have := hE.blocks b h1
        have := hB1.blocks b h2
        omega
  · simp only [show ¬ ra + i < ra by omega, if_false]
    congr 1; omega
/-- one round: the row grows in place, and then the outer slice -/
theorem Lot.round {wr w7 W : World} {lo ra rb k : Nat} {s t v7 : Value} {fB : Nat → Value} {L : Nat → List Int} {r : List Int} (h : Lot wr lo s t ra rb k fB L) (hk : k < rb) (hlo : lo ≤ wr.heap.size)
    (ho : OwnI 3 w7 lo w7.heap.size v7 r) (hg : wr.grownBy w7 (fB k).ownBlock) (hn : ∀ b, v7.ownBlock = some b → (fB k).ownBlock = some b ∨ wr.heap.size ≤ b) (hW : Below w7.heap.size w7 W) :
    ∃ fo, OwnE2 W lo wr.heap.size 24 s (ra + k) fo t ∧ Below lo wr W ∧
      ∀ v8 w8, OwnF w8 lo w8.heap.size 24 v8 (ra + k + 1) (fun j => if j < ra + k then fo j else v7) → App2 W w8 lo wr.heap.size 24 s v8 (ra + k) fo t →
        Lot w8 lo v8 t ra rb (k + 1) fB (fun i => if i = ra + k then r else L i) ∧ Below lo wr w8 := by
  obtain ⟨fo, h1, h2, h3, h4⟩ := h
  have hs := hg.size
  have hsW := hW.size
  have ek := h4 k (Nat.le_refl _) hk
  have hrow := h2.1 (ra + k) (by omega)
  rw [ek] at hrow
  have hbW : Below lo wr W := (grownBy_below hg hrow.fn.blocks (Nat.le_refl _) hlo).trans (hW.mono (by omega))
  have hN := (h2.set (k := ra + k) (by omega) (Nat.le_refl _) ho (by rw [ek]; exact hg) (by rw [ek]; exact hn)).below hW
  have h3' : OwnF W lo wr.heap.size 24 t rb fB := (OwnF.grown h3 hg fun b e1 e2 => OwnF.apart hrow.fn h3 (by decide) b e2 e1).below hW
  refine ⟨fo, ?_, hbW, fun v8 w8 ho8 hg8 => ?_⟩
  · rcases h1 with h1 | ⟨h1, hne⟩
    · exact .inl h1
    · exact .inr ⟨(OwnF.grown h1 hg fun b e1 e2 => OwnF.apart hrow.fn h1 (by decide) b e2 e1).below hW, hne⟩
  · have hb8 : Below lo W w8 := by
      rcases hg8 with ⟨hg8, _⟩ | ⟨hg8, _, hg9, _⟩
      · exact hg8.mono (by omega)
      · exact grownBy_below hg9 hg8.blocks (Nat.le_refl _) (by omega)
    have hs8 := hb8.size
    refine ⟨⟨fun i => if i = ra + k then v7 else fo i, .inr ⟨?_, ?_⟩, ?_, ?_, fun i hi1 hi2 => ?_⟩, hbW.trans hb8⟩
    · refine ho8.congr fun j hj => ?_
      by_cases e : j = ra + k
      · simp [e]
      · simp [e, show j < ra + k by omega]
    · intro b e1 e2
      have hlt := h3'.blocks b e2
      rcases hg8 with ⟨_, hg8⟩ | ⟨_, hne, _, hg8⟩
      · have := hg8 b e1; omega
      · rcases hg8 b e1 with e3 | e3
        · exact hne b e3 e2
        · omega
    · have hg9 : Below W.heap.size W w8 ∨ (OwnF W lo wr.heap.size 24 s (ra + k) fo ∧ W.grownBy w8 s.ownBlock) := by
        rcases hg8 with ⟨hg8, _⟩ | ⟨hg8, _, hg9, _⟩
        · exact .inl hg8
        · exact .inr ⟨hg8, hg9⟩
      exact (hN.appE hg9).mono (by omega)
    · rcases hg8 with ⟨hg8, _⟩ | ⟨_, hne, hg9, _⟩
      · exact (h3'.below hg8).mono (Nat.le_refl _) (by omega)
      · exact (OwnF.grown h3' hg9 fun b e1 e2 => hne b e2 e1).mono (Nat.le_refl _) (by omega)
    · simp only [show ¬ ra + i = ra + k by omega, if_false]
      exact h4 i (by omega) hi2
/-- .. and at the end -/
theorem Lot.rd {w : World} {lo ra rb : Nat} {s t : Value} {fB : Nat → Value} {L : Nat → List Int} {rows : List (List Int)} (h : Lot w lo s t ra rb rb fB L) (hl : rows.length = ra + rb) (hL : ∀ i, i < ra + rb → L i = rows.getD i []) : RdII w s rows := by
  obtain ⟨fo, h1, h2, _, _⟩ := h
  rw [← hl] at h1 h2 hL
  refine h2.rd (lo' := lo) (hi' := w.heap.size) ?_ hL
  rcases h1 with h1 | ⟨h1, _⟩
  · exact .inl h1
  · exact .inr h1

theorem own_zeros {w : World} {lo hi c : Nat} {v : Value} {xs : List Int} (hl : xs.length = c) (h : OwnF w lo hi 3 v (c + c) (fun j => if j < c then iv xs j else (Value.int .i64 0).cells[0]!)) : OwnI 3 w lo hi v (xs ++ List.replicate c 0) := by
  refine own_join ?_
  rw [hl, List.length_replicate]
  refine h.congr fun j hj => ?_
  by_cases e : j < c
  · simp [e]
  · simp only [e, if_false]
    unfold iv
    rw [List.getD_eq_getElem?_getD]
    simp [show j - c < c by omega, Value.cells]

theorem ints_drop {w : World} {b n cap c : Nat} {xs : List Int} (h : Ints w (.slice (some ⟨b, 0, none⟩) n cap) xs) (hl : xs.length = n) (hc : c ≤ n) (h1 : n ≤ cap) (h2 : cap ≤ maxLen) : Ints w (.slice (some ⟨b, c, none⟩) (n - c) (cap - c)) (xs.drop c) := by
  unfold Ints at h ⊢
  rw [hl] at h
  have := Rd.part h c (n - c) (cap - c) (by omega) (by omega) (by omega)
  rw [Nat.zero_add] at this
  rw [List.length_drop, hl]
  exact this.congr fun j hj => by simp [iv, List.getD_eq_getElem?_getD]

end Go.Proofs.YtgebjjpcgakjgaaGreat

namespace Go.Proofs.YtgebjjpcgakjgaaGreat
set_option linter.all false
open Go.RowKit

/-- a string -/
def strOk (s : List Int) : Bool := decide (1 ≤ s.length ∧ s.length ≤ 7 ∧ ∀ x ∈ s, x = 0 ∨ x = 1)
/-- the rows of the first i places -/
def spR (s : List Int) : Nat → List (List Int)
  | 0 => []
  | i + 1 => if s.getD i 0 = 0 then spR s i else spR s i ++ [unitRow s.length i]
/-- the free places of row r with the pivot i, up to column j -/
def spG (s : List Int) (r i j : Nat) : List Nat := ((List.range j).filter fun (c : Nat) => decide (i < c) && decide (s.getD c 0 = 0)).map fun (c : Nat) => r * s.length + c
def spF (s : List Int) : Nat → List Nat
  | 0 => []
  | i + 1 => if s.getD i 0 = 0 then spF s i else spF s i ++ spG s (spR s i).length i s.length
theorem spR_zero {s : List Int} {i : Nat} (h : s.getD i 0 = 0) : spR s (i + 1) = spR s i := by rw [spR, if_pos h]
theorem spR_one {s : List Int} {i : Nat} (h : ¬ s.getD i 0 = 0) : spR s (i + 1) = spR s i ++ [unitRow s.length i] := by rw [spR, if_neg h]
theorem spF_zero {s : List Int} {i : Nat} (h : s.getD i 0 = 0) : spF s (i + 1) = spF s i := by rw [spF, if_pos h]
theorem spF_one {s : List Int} {i : Nat} (h : ¬ s.getD i 0 = 0) : spF s (i + 1) = spF s i ++ spG s (spR s i).length i s.length := by rw [spF, if_neg h]
theorem spG_start (s : List Int) (r i : Nat) : spG s r i (i + 1) = [] := by
  unfold spG
  rw [List.filter_eq_nil_iff.2 ?_]; rfl
  intro c hc
  have := List.mem_range.1 hc
  simp; intro h2; omega
theorem spG_no (s : List Int) (r i j : Nat) (h : ¬ s.getD j 0 = 0) : spG s r i (j + 1) = spG s r i j := by
  unfold spG; rw [List.range_succ, List.filter_append]
  have e : List.filter (fun (c : Nat) => decide (i < c) && decide (s.getD c 0 = 0)) [j] = [] := by
    rw [List.filter_cons, if_neg (by rw [decide_eq_false h]; simp)]; rfl
  rw [e, List.append_nil]
theorem spG_yes (s : List Int) (r i j : Nat) (h1 : i < j) (h : s.getD j 0 = 0) : spG s r i (j + 1) = spG s r i j ++ [r * s.length + j] := by
  unfold spG; rw [List.range_succ, List.filter_append]
  have e : List.filter (fun (c : Nat) => decide (i < c) && decide (s.getD c 0 = 0)) [j] = [j] := by
    rw [List.filter_cons, if_pos (by rw [decide_eq_true h1, decide_eq_true h]; rfl)]; rfl
  rw [e]; simp
theorem spG_len (s : List Int) (r i j : Nat) : (spG s r i j).length ≤ j := by
  unfold spG
  rw [List.length_map]
  exact Nat.le_trans (List.length_filter_le _ _) (by simp)
theorem spR_len (s : List Int) : ∀ i, (spR s i).length ≤ i
  | 0 => Nat.le_refl _
  | i + 1 => by
    have := spR_len s i
    unfold spR; split
    · omega
    · rw [List.length_append]; simp; omega
theorem spF_len (s : List Int) (h7 : s.length ≤ 7) : ∀ i, (spF s i).length ≤ i * 7
  | 0 => Nat.le_refl _
  | i + 1 => by
    have := spF_len s h7 i
    unfold spF; split
    · omega
    · have h2 := spG_len s (spR s i).length i s.length
      rw [List.length_append]; omega
theorem spR_flat (s : List Int) : ∀ i, (spR s i).flatten.length = (spR s i).length * s.length
  | 0 => by simp [spR]
  | i + 1 => by
    have := spR_flat s i
    unfold spR; split
    · exact this
    · rw [List.flatten_append, List.length_append, this, List.length_append, List.length_singleton, Nat.succ_mul]
      simp [unitRow_length]
theorem spF_mem (s : List Int) : ∀ i, ∀ t ∈ spF s i, t < (spR s i).length * s.length
  | 0 => fun t h => absurd h (by simp [spF])
  | i + 1 => fun t h => by
    have ih := spF_mem s i
    by_cases e : s.getD i 0 = 0
    · rw [spF_zero e] at h; rw [spR_zero e]; exact ih t h
    · rw [spF_one e] at h
      rw [spR_one e, List.length_append, List.length_singleton, Nat.succ_mul]
      rcases List.mem_append.1 h with h | h
      · have := ih t h; omega
      · unfold spG at h
        obtain ⟨c, hc, rfl⟩ := List.mem_map.1 h
        have := List.mem_range.1 (List.mem_filter.1 hc).1
        omega
theorem unitRow_nat (n i : Nat) : unitRow n (i : Int) = (List.range n).map fun (j : Nat) => if (j : Int) = (i : Int) then 1 else 0 := rfl

/-- all spaces with a string -/
def spMs (p : Int) (s : List Int) : List Mx × Bool := if primeOk p && strOk s then fillB p (spR s s.length).length s.length (spR s s.length).flatten (spF s s.length) else ([], false)
theorem spMs_no {p : Int} {s : List Int} (h : primeOk p = false ∨ strOk s = false) : spMs p s = ([], false) := by
  unfold spMs; rcases h with h | h <;> simp [h]
theorem spMs_yes {p : Int} {s : List Int} (h : primeOk p = true) (h2 : strOk s = true) : spMs p s = fillB p (spR s s.length).length s.length (spR s s.length).flatten (spF s s.length) := by
  unfold spMs; simp [h, h2]
theorem spR_49 {s : List Int} (h7 : s.length ≤ 7) : (spR s s.length).flatten.length ≤ 49 := by
  rw [spR_flat]
  have := spR_len s s.length
  exact Nat.le_trans (Nat.mul_le_mul (Nat.le_trans this h7) h7) (by omega)
theorem spMs_len (p : Int) (s : List Int) : preM (spMs p s).1 (spMs p s).1.length ≤ 1000000 := by
  unfold spMs
  split
  · rename_i h
    simp only [Bool.and_eq_true] at h
    obtain ⟨_, h7, _⟩ := of_decide_eq_true h.2
    exact fillB_len _ _ _ _ _ (spR_49 h7)
  · simp [preM]

/-! ### strings, as both sides look at them -/
theorem isSize_any (n : Int) (w : World) :
    Calls Tryz.prog 54 #[.int .i64 n] w fun e w' => e = .returned (.bool (decide (1 ≤ n ∧ n ≤ 7))) ∧ w = w' := by
  go_enter Tryz.func54, Tryz.ntmps54
  by_cases h1 : 1 ≤ n
  · by_cases h2 : n ≤ 7
    · go_wp2
      go_ret
      exact ⟨ret_bool (by simp [h1, h2]), rfl⟩
    · go_wp2
      go_ret
      exact ⟨ret_bool (by simp [h1, h2]), rfl⟩
  · go_wp2
    go_ret
    exact ⟨ret_bool (by simp; omega), rfl⟩

theorem strOk_take {s : List Int} (h : ∀ k, k < s.length → s.getD k 0 = 0 ∨ s.getD k 0 = 1) : ∀ x ∈ s, x = 0 ∨ x = 1 := by
  intro x hx
  obtain ⟨k, hk, rfl⟩ := List.getElem_of_mem hx
  have := h k hk
  simpa [List.getD_eq_getElem?_getD, hk] using this
theorem strOk_bad {s : List Int} {k : Nat} (hk : k < s.length) (h0 : ¬ s.getD k 0 = 0) (h1 : ¬ s.getD k 0 = 1) : strOk s = false := by
  unfold strOk
  refine decide_eq_false ?_
  rintro ⟨_, _, h⟩
  have := h (s.getD k 0) (getD_mem hk)
  omega

end Go.Proofs.YtgebjjpcgakjgaaGreat

namespace Go.Proofs.YtgebjjpcgakjgaaGreat
set_option linter.all false
open Go.RowKit

/-- how many are left of the first n without the zeros at their end -/
def shN (xs : List Int) : Nat → Nat
  | 0 => 0
  | n + 1 => if xs.getD n 0 = 0 then shN xs n else n + 1
theorem shN_le (xs : List Int) : ∀ n, shN xs n ≤ n
  | 0 => Nat.le_refl _
  | n + 1 => by
    rw [shN]
    split
    · exact Nat.le_succ_of_le (shN_le xs n)
    · exact Nat.le_refl _
def shL (xs : List Int) : List Int := xs.take (shN xs xs.length)
theorem OwnF.made1 (w : World) (T : TypeId) (x : Value) : OwnF (w.alloc (.cells #[x] T)) w.heap.size (w.heap.size + 1) T (.slice (some ⟨w.heap.size, 0, none⟩) 1 1) 1 (fun _ => x) :=
  OwnF.mk' ⟨#[x], heap_alloc_top _ _, rfl, fun j hj => by obtain rfl : j = 0 := by omega
                                                          rfl⟩ (Nat.le_refl _) (Nat.lt_succ_self _) (Nat.le_refl _) (by unfold maxLen; omega) fun _ _ => rfl

/-! ### the shape of a string -/

def ssZ (t : List Int) : Nat → Nat
  | 0 => 0
  | i + 1 => if t.getD i 0 = 0 then ssZ t i + 1 else ssZ t i
def ssR (t : List Int) : Nat → List Int
  | 0 => []
  | i + 1 => if t.getD i 0 = 0 then ssR t i else (ssZ t i : Int) :: ssR t i
theorem ssZ_le (t : List Int) : ∀ i, ssZ t i ≤ i
  | 0 => Nat.le_refl _
  | i + 1 => by
    have := ssZ_le t i
    rw [ssZ]
    split <;> omega
theorem ssR_len (t : List Int) : ∀ i, (ssR t i).length ≤ i
  | 0 => Nat.le_refl _
  | i + 1 => by
    have := ssR_len t i
    rw [ssR]
    split
    · omega
    · rw [List.length_cons]; omega
theorem OwnI.cons1 {T : TypeId} {w : World} {lo hi n : Nat} {v : Value} {out : List Int} {x : Int} (hn : n = out.length) (h : OwnF w lo hi T v (1 + n) (fun j => if j < 1 then .int .i64 x else iv out (j - 1))) : OwnI T w lo hi v (x :: out) := by
  subst hn
  refine OwnF.ints ?_
  rw [List.length_cons, Nat.add_comm]
  refine h.congr fun j hj => ?_
  by_cases e : j = 0
  · subst e; rfl
  · rw [if_neg (by omega)]
    obtain ⟨i, rfl⟩ : ∃ i, j = i + 1 := ⟨j - 1, by omega⟩
    rfl

/-! ### what a shape leaves of its box -/

def duR (xs : List Int) (r c : Nat) : List Int := (List.range r).map fun b => (c : Int) - (r : Int) - xs.getD (r - 1 - b) 0
theorem duR_length (xs : List Int) (r c : Nat) : (duR xs r c).length = r := by simp [duR]
theorem duR_getD {xs : List Int} {r c b : Nat} (h : b < r) : (duR xs r c).getD b 0 = (c : Int) - (r : Int) - xs.getD (r - 1 - b) 0 := by simp [duR, List.getD_eq_getElem?_getD, h]
def duP (xs : List Int) (r c k : Nat) : List Int := (duR xs r c).take k
theorem duP_length {xs : List Int} {r c k : Nat} (h : k ≤ r) : (duP xs r c k).length = k := by simp [duP, duR_length]; omega
theorem duP_succ {xs : List Int} {r c k : Nat} (h : k < r) : duP xs r c (k + 1) = duP xs r c k ++ [(c : Int) - (r : Int) - xs.getD (r - 1 - k) 0] := by
  have hk : k < (duR xs r c).length := by rw [duR_length]; exact h
  unfold duP
  rw [List.take_succ, List.getElem?_eq_getElem hk, Option.toList, ← getD_lt hk, duR_getD h]
/-! ### one shape in another -/

def cnB (a b : List Int) : Bool := shOk a && shOk b && decide (b.length ≤ a.length) && decide (∀ i, i < b.length → b.getD i 0 ≤ a.getD i 0)
theorem cnB_no1 {a b : List Int} (h : shOk a = false) : cnB a b = false := by simp [cnB, h]
theorem cnB_no2 {a b : List Int} (h : shOk b = false) : cnB a b = false := by simp [cnB, h]
theorem cnB_no3 {a b : List Int} (h : ¬ b.length ≤ a.length) : cnB a b = false := by simp [cnB, h]
theorem cnB_no4 {a b : List Int} {i : Nat} (hi : i < b.length) (h : ¬ b.getD i 0 ≤ a.getD i 0) : cnB a b = false := by
  unfold cnB
  rw [show decide (∀ i, i < b.length → b.getD i 0 ≤ a.getD i 0) = false from decide_eq_false fun e => h (e i hi), Bool.and_false]
theorem cnB_yes {a b : List Int} (h1 : shOk a = true) (h2 : shOk b = true) (h3 : b.length ≤ a.length) (h4 : ∀ i, i < b.length → b.getD i 0 ≤ a.getD i 0) : cnB a b = true := by
  unfold cnB
  rw [h1, h2, decide_eq_true h3, decide_eq_true h4]; rfl

end Go.Proofs.YtgebjjpcgakjgaaGreat

namespace Go.Proofs.YtgebjjpcgakjgaaGreat
set_option linter.all false
open Go.RowKit

/-- the rows of a shape in a box -/
theorem bx_facts {xs : List Int} {r c : Nat} (h : bxOk xs r c = true) (hrc : r ≤ c) : ∀ i, i < r → 0 ≤ xs.getD i 0 ∧ xs.getD i 0 ≤ (c : Int) - (r : Int) := by
  unfold bxOk at h
  simp only [Bool.and_eq_true, decide_eq_true_eq] at h
  obtain ⟨⟨h1, h2⟩, h3⟩ := h
  obtain ⟨hl, hs⟩ := shOk_facts h1
  have hmon : ∀ i, i < xs.length → xs.getD i 0 ≤ xs.getD 0 0 := by
    intro i
    induction i with
    | zero => exact fun _ => Int.le_refl _
    | succ i ih =>
      intro hi
      have a := ih (by omega)
      have b := (hs (i + 1) hi).2.2 (by omega)
      rw [Nat.add_sub_cancel] at b
      omega
  intro i hi
  by_cases e : i < xs.length
  · have a := hmon i e
    have b := (hs i e).1
    omega
  · have : xs.getD i 0 = 0 := by simp [List.getD_eq_getElem?_getD, Nat.le_of_not_lt e]
    rw [this]
    omega
end Go.Proofs.YtgebjjpcgakjgaaGreat

namespace Go.Proofs.YtgebjjpcgakjgaaGreat
set_option linter.all false
open Go.RowKit

/-- the numbers at the first i places -/
def gpA (sh : List Int) (k i : Nat) : List Int := (List.range i).map fun (t : Nat) => (t : Int) + sh.getD (k - 1 - t) 0
def gpB (A : List Int) (n : Nat) : List Int := ((List.range n).filter fun (x : Nat) => decide (¬ (x : Int) ∈ A)).map fun (x : Nat) => (x : Int)
def gpW (sh : List Int) (k n : Nat) : List Int := gpA sh k k ++ gpB (gpA sh k k) n
theorem gpA_length (sh : List Int) (k i : Nat) : (gpA sh k i).length = i := by simp [gpA]
theorem gpA_succ (sh : List Int) (k i : Nat) : gpA sh k (i + 1) = gpA sh k i ++ [(i : Int) + sh.getD (k - 1 - i) 0] := by simp [gpA, List.range_succ]
theorem gpA_getD {sh : List Int} {k i t : Nat} (h : t < i) : (gpA sh k i).getD t 0 = (t : Int) + sh.getD (k - 1 - t) 0 := by simp [gpA, List.getD_eq_getElem?_getD, h]
theorem gpB_len (A : List Int) (n : Nat) : (gpB A n).length ≤ n := by
  unfold gpB
  rw [List.length_map]
  exact Nat.le_trans (List.length_filter_le _ _) (by simp)
theorem gpB_no {A : List Int} {n : Nat} (h : (n : Int) ∈ A) : gpB A (n + 1) = gpB A n := by
  unfold gpB
  rw [List.range_succ, List.filter_append, List.map_append]
  simp [h]
theorem gpB_yes {A : List Int} {n : Nat} (h : ¬ (n : Int) ∈ A) : gpB A (n + 1) = gpB A n ++ [(n : Int)] := by
  unfold gpB
  rw [List.range_succ, List.filter_append, List.map_append]
  simp [h]

end Go.Proofs.YtgebjjpcgakjgaaGreat

namespace Go.Proofs.YtgebjjpcgakjgaaGreat
set_option linter.all false
open Go.RowKit

/-- the shapes that begin with some parts, with at most so many parts more, none greater than m -/
def shs : Nat → Nat → List Int → List (List Int)
  | 0, _, front => [front]
  | r + 1, m, front => front :: (List.range m).flatMap fun (n : Nat) => shs r (n + 1) (front ++ [((n + 1 : Nat) : Int)])
theorem shs_len : ∀ (r m : Nat) (front : List Int), (shs r m front).length ≤ (m + 1) ^ r
  | 0, m, front => by simp [shs]
  | r + 1, m, front => by
    rw [shs, List.length_cons]
    have key : ∀ k, k ≤ m → ((List.range k).flatMap fun (n : Nat) => shs r (n + 1) (front ++ [((n + 1 : Nat) : Int)])).length ≤ k * (m + 1) ^ r := by
      intro k
      induction k with
      | zero => intro _; simp
      | succ k ih =>
        intro hk
        rw [flatMap_snoc, List.length_append, Nat.succ_mul]
        have a := ih (by omega)
        have b := shs_len r (k + 1) (front ++ [((k + 1 : Nat) : Int)])
        have c : (k + 1 + 1) ^ r ≤ (m + 1) ^ r := Nat.pow_le_pow_left (by omega) r
        omega
    have a := key m (Nat.le_refl m)
    have b : 1 ≤ (m + 1) ^ r := Nat.one_le_pow _ _ (by omega)
    rw [Nat.pow_succ, Nat.mul_add]
    rw [Nat.mul_comm ((m + 1) ^ r) m]
    omega
theorem shs_len' (r m k : Nat) (front : List Int) (hk : k ≤ m) : ((List.range k).flatMap fun (n : Nat) => shs r (n + 1) (front ++ [((n + 1 : Nat) : Int)])).length ≤ k * (m + 1) ^ r := by
  induction k with
  | zero => simp
  | succ k ih =>
    rw [flatMap_snoc, List.length_append, Nat.succ_mul]
    have a := ih (by omega)
    have b := shs_len r (k + 1) (front ++ [((k + 1 : Nat) : Int)])
    have c : (k + 1 + 1) ^ r ≤ (m + 1) ^ r := Nat.pow_le_pow_left (by omega) r
    omega

theorem grown_after {w w1 w' : World} {b : Option Nat} (hb : Below w.heap.size w w1) (hg : w1.grownBy w' b) : w.grownBy w' b :=
  ⟨hg.os.trans hb.os, hg.tape.trans hb.tape, hg.output.trans hb.output, Nat.le_trans hb.size hg.size, fun k hk hne => (hg.block k (Nat.lt_of_lt_of_le hk hb.size) hne).trans (hb.block k hk)⟩
theorem grown_chain {w w1 w' : World} {a b : Option Nat} (h1 : w.grownBy w1 a) (h2 : w1.grownBy w' b) (hab : ∀ k, b = some k → a = some k ∨ w.heap.size ≤ k) : w.grownBy w' a :=
  ⟨h2.os.trans h1.os, h2.tape.trans h1.tape, h2.output.trans h1.output, Nat.le_trans h1.size h2.size, fun k hk hne => (h2.block k (Nat.lt_of_lt_of_le hk h1.size) (fun e => by
    rcases hab k e.symm with h | h
    · exact hne h.symm
    · omega)).trans (h1.block k hk hne)⟩
theorem grown_then {w w1 w' : World} {a : Option Nat} (h1 : w.grownBy w1 a) (hb : Below w1.heap.size w1 w') : w.grownBy w' a :=
  ⟨hb.os.trans h1.os, hb.tape.trans h1.tape, hb.output.trans h1.output, Nat.le_trans h1.size hb.size, fun k hk hne => (hb.block k (Nat.lt_of_lt_of_le hk h1.size)).trans (h1.block k hk hne)⟩
/-- a row keeps what it holds where another slice grew -/
theorem OwnI.grownBy {Ts Ti : TypeId} {w w' : World} {lo mid lo1 hi1 n : Nat} {lv fv : Value} {f : Nat → Value} {xs : List Int} (h : OwnI Ti w lo1 hi1 fv xs) (hg : w.grownBy w' lv.ownBlock) (hl : OwnF w lo mid Ts lv n f) (hT : Ts ≠ Ti) : OwnI Ti w' lo1 hi1 fv xs :=
  ⟨ownsRow_of_block h.1 fun k hk => hg.block k (Own.block h hk).2.2 fun e => own_types hl h hT e.symm hk, h.2⟩

/-- a row of its own is put behind the others, its block told apart outright -/
theorem OwnII.snocD {Ts Ti : TypeId} {w w' : World} {lo hi : Nat} {v v' x : Value} {rows : List (List Int)} {xs : List Int} {f : Nat → Value} (g1 : OwnF w lo hi Ts v rows.length f) (g2 : ∀ i, i < rows.length → OwnI Ti w lo hi (f i) (rows.getD i []))
    (g3 : ∀ i j, i < j → j < rows.length → ∀ k, (f i).ownBlock = some k → (f j).ownBlock ≠ some k) (hx : OwnI Ti w lo hi x xs) (hd : ∀ i, i < rows.length → ∀ k, (f i).ownBlock = some k → x.ownBlock ≠ some k) (hT : Ts ≠ Ti)
    (hg : w.grownBy w' v.ownBlock) (hsz : hi ≤ w'.heap.size)
    (hv : OwnF w' lo w'.heap.size Ts v' (rows.length + 1) (fun j => if j < rows.length then f j else x)) : OwnII Ts Ti w' lo w'.heap.size v' (rows ++ [xs]) := by
  refine ⟨_, by rw [List.length_append]; exact hv, fun i hi => ?_, fun i j hij hj k hk => ?_⟩
  · rw [List.length_append] at hi
    simp only [List.length_singleton] at hi
    by_cases hlt : i < rows.length
    · have e : (rows ++ [xs]).getD i [] = rows.getD i [] := by simp [List.getD_eq_getElem?_getD, List.getElem?_append_left hlt]
      simp only [hlt, if_true]
      rw [e]
      exact ((g2 i hlt).grownBy hg g1 hT).mono (Nat.le_refl _) hsz
    · have e : (rows ++ [xs]).getD i [] = xs := by
        have : i = rows.length := by omega
        subst this
        simp [List.getD_eq_getElem?_getD]
      simp only [hlt, if_false]
      rw [e]
      exact (hx.grownBy hg g1 hT).mono (Nat.le_refl _) hsz
  · rw [List.length_append] at hj
    simp only [List.length_singleton] at hj
    by_cases hlt : j < rows.length
    · simp only [hlt, if_true]
      simp only [show i < rows.length by omega, if_true] at hk
      exact g3 i j hij hlt k hk
    · simp only [hlt, if_false]
      simp only [show i < rows.length by omega, if_true] at hk
      exact hd i (by omega) k hk

/-- what l4Shapes does -/
def L4Q (w : World) (lo : Nat) (lv : Value) (L : List (List Int)) (e : Ending) (w' : World) : Prop :=
  ∃ v', e = .returned v' ∧ OwnII 24 3 w' lo w'.heap.size v' L ∧ w.grownBy w' lv.ownBlock ∧ ∀ b, v'.ownBlock = some b → lv.ownBlock = some b ∨ w.heap.size ≤ b

end Go.Proofs.YtgebjjpcgakjgaaGreat

namespace Go.Proofs.YtgebjjpcgakjgaaGreat
set_option linter.all false
open Go.RowKit

def ishs : Nat → Nat → List (List Int)
  | 0, _ => [[]]
  | r + 1, m => [] :: (List.range m).flatMap fun (n : Nat) => (ishs r (n + 1)).map fun l => ((n : Int) + 1) :: l
theorem ishs_len : ∀ (r m : Nat), (ishs r m).length ≤ (m + 1) ^ r
  | 0, m => by simp [ishs]
  | r + 1, m => by
    rw [ishs, List.length_cons]
    have a : ∀ k, k ≤ m → ((List.range k).flatMap fun (n : Nat) => (ishs r (n + 1)).map fun l => ((n : Int) + 1) :: l).length ≤ k * (m + 1) ^ r := by
      intro k
      induction k with
      | zero => intro _; simp
      | succ k ih =>
        intro hk
        rw [flatMap_snoc, List.length_append, Nat.succ_mul, List.length_map]
        have a := ih (by omega)
        have b := ishs_len r (k + 1)
        have c : (k + 1 + 1) ^ r ≤ (m + 1) ^ r := Nat.pow_le_pow_left (by omega) r
        omega
    have a := a m (Nat.le_refl m)
    have b : 1 ≤ (m + 1) ^ r := Nat.one_le_pow _ _ (by omega)
    rw [Nat.pow_succ, Nat.mul_add]
    rw [Nat.mul_comm ((m + 1) ^ r) m]
    omega
theorem ishs_len' (r m k : Nat) (hk : k ≤ m) : ((List.range k).flatMap fun (n : Nat) => (ishs r (n + 1)).map fun l => ((n : Int) + 1) :: l).length ≤ k * (m + 1) ^ r := by
  induction k with
  | zero => simp
  | succ k ih =>
    rw [flatMap_snoc, List.length_append, Nat.succ_mul, List.length_map]
    have a := ih (by omega)
    have b := ishs_len r (k + 1)
    have c : (k + 1 + 1) ^ r ≤ (m + 1) ^ r := Nat.pow_le_pow_left (by omega) r
    omega
theorem ishs_short : ∀ (r m : Nat), ∀ l ∈ ishs r m, l.length ≤ r
  | 0, m, l, h => by simp [ishs] at h; simp [h]
  | r + 1, m, l, h => by
    rw [ishs, List.mem_cons] at h
    rcases h with rfl | h
    · simp
    · obtain ⟨n, _, h⟩ := List.mem_flatMap.1 h
      obtain ⟨l', h', rfl⟩ := List.mem_map.1 h
      have := ishs_short r (n + 1) l' h'
      simp; omega
theorem take_snoc_map {α β : Type} (g : α → β) (L : List α) {j : Nat} (h : j < L.length) : (L.take (j + 1)).map g = (L.take j).map g ++ [g L[j]] := by
  rw [List.take_succ, List.getElem?_eq_getElem h, List.map_append]
  rfl

/-- a list with the empty list alone -/
theorem made_nil1 (w : World) : OwnII 24 3 ((w.alloc (.cells #[] 3)).alloc (.cells #[.slice (some ⟨w.heap.size, 0, none⟩) 0 0] 24)) w.heap.size (w.heap.size + 1 + 1) (.slice (some ⟨w.heap.size + 1, 0, none⟩) 1 1) [[]] := by
  refine ⟨fun _ => .slice (some ⟨w.heap.size, 0, none⟩) 0 0, ?_, fun i hi => ?_, fun i j hij hj => ?_⟩
  · have := (OwnF.made1 (w.alloc (.cells #[] 3)) 24 (.slice (some ⟨w.heap.size, 0, none⟩) 0 0)).mono (lo' := w.heap.size) (hi' := w.heap.size + 1 + 1) (by simp) (by simp)
    rw [size_alloc] at this
    exact this
  · obtain rfl : i = 0 := by simpa using hi
    exact ((OwnF.ints (xs := []) (OwnF.made0 w 3 (iv []))).below (below_alloc _ _)).mono (Nat.le_refl _) (by omega)
  · have : j = 0 := by simpa using hj
    omega

/-! ### sums -/
def sumTo2 (xs : List Int) : Nat → Int
  | 0 => 0
  | k + 1 => sumTo2 xs k + xs.getD k 0
def sumI (xs : List Int) : Int := sumTo2 xs xs.length
def sumOk (xs : List Int) : Prop := xs.length ≤ 1000 ∧ ∀ k, k < xs.length → 0 ≤ xs.getD k 0 ∧ xs.getD k 0 ≤ 1000000
theorem sumTo2_rng {xs : List Int} (h : sumOk xs) : ∀ k, k ≤ xs.length → 0 ≤ sumTo2 xs k ∧ sumTo2 xs k ≤ k * 1000000
  | 0, _ => by simp [sumTo2]
  | k + 1, hk => by
    have a := sumTo2_rng h k (by omega)
    have b := h.2 k (by omega)
    rw [sumTo2]
    push_cast
    omega

end Go.Proofs.YtgebjjpcgakjgaaGreat
