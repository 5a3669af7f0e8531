/-
  The diagram of a permutation and its essential cells, on both sides.
-/
import Derived.Test.YtejoapielndnnaaCells
import Derived.Test.YtejoapielndnnaaPmat
import Derived.Test.YtejoapielndnnaaApp3
import Derived.Lib.OwnKind
namespace Go.Proofs.Ytejoapielndnnaa
set_option linter.all false
open Go.RowKit

set_option maxRecDepth 100000 in
set_option maxHeartbeats 2000000 in
theorem indexC_any (v : Value) (cs : List (Int × Int)) (r d : Int) (w : World) (h : RdC w v cs) :
    Calls Try.prog 89 #[v, .agg #[.int .i64 r, .int .i64 d]] w fun e w' => ∃ x : Int, e = .returned (.int .i64 x) ∧ (0 ≤ x ↔ (r, d) ∈ cs) ∧ -1 ≤ x ∧ Below w.heap.size w w' := by
  obtain ⟨p, cap, rfl, ⟨hx1, hx2⟩, hxc⟩ := h
  unfold maxLen at hx2
  have Hxc := Lib.hid hxc
  clear hxc
  have z0 := heap_alloc_top w (.cells #[.int .i64 r, .int .i64 d] 55)
  go_enter Try.func89, Try.ntmps89
  go_wp2_with fail
  go_loopg [8] cs.length (fun g s5 wr => ∃ k : Nat, k ≤ cs.length ∧ g = cs.length - k ∧ s5 = .int .i64 k ∧ Qt (w.alloc (.cells #[.int .i64 r, .int .i64 d] 55)) wr ∧ Hid ((r, d) ∉ cs.take k))
  case atStart => exact ⟨0, Nat.zero_le _, rfl, rfl, Qt.refl _, by simp [Hid]⟩
  case round =>
    obtain ⟨k, hk, rfl, rfl, hq, hno⟩ := hrel
    by_cases hlt : k < cs.length
    · obtain ⟨b, rfl, hc⟩ := Hxc.out (by omega)
      have c1 := hq.cell (show (w.alloc _).cell? _ = some _ by rw [(below_alloc w _).cell (World.block_lt_of_cell? w _ (hc k hlt).1)]; exact (hc k hlt).1)
      have c2 := hq.cell (show (w.alloc _).cell? _ = some _ by rw [(below_alloc w _).cell (World.block_lt_of_cell? w _ (hc k hlt).2)]; exact (hc k hlt).2)
      have x1 : wr.cell? ⟨w.heap.size, 0, none⟩ = some (.int .i64 r) := hq.cell (cell_of_blk z0 (j := 0) rfl)
      have x2 : wr.cell? ⟨w.heap.size, 1, none⟩ = some (.int .i64 d) := hq.cell (cell_of_blk z0 (j := 1) rfl)
      obtain ⟨e, he⟩ : ∃ e, e = cs.getD k (0, 0) := ⟨_, rfl⟩
      rw [← he] at c1 c2
      have ht : cs.take (k + 1) = cs.take k ++ [e] := by rw [he, List.take_add_one, List.getElem?_eq_getElem hlt, List.getD_eq_getElem?_getD, List.getElem?_eq_getElem hlt]; rfl
      obtain ⟨X, Y⟩ := e
      dsimp only at c1 c2
      have Ht := Lib.hid ht
      clear hc he ht z0
      have hmem : (X, Y) ∈ cs := List.mem_of_mem_take (i := k + 1) (by rw [Ht.out]; simp)
      have Hmem := Lib.hid hmem
      clear hmem
      by_cases e1 : r = X
      · subst e1
        by_cases e2 : d = Y
        · subst e2
          go_wp2_with fail
          go_quiet (fail)
          go_wp2_with fail
          go_ret
          exact ⟨k, rfl, ⟨fun _ => Hmem.out, fun _ => by omega⟩, by omega, (below_alloc _ _).trans ((hq.drewN _).below _)⟩
        · have e3 : (d == Y) = false := by simp [e2]
          go_wp2_with fail
          go_quiet (fail)
          go_wp2_with fail
          go_roundg (cs.length - (k + 1))
          case measure => omega
          case rel =>
            refine ⟨k + 1, by omega, rfl, by go_num, hq.drewN _, ?_⟩
            show _ ∉ cs.take (k + 1)
            rw [Ht.out, List.mem_append]
            rintro (h | h)
            · exact hno h
            · simp at h; exact e2 h
      · have e3 : (r == X) = false := by simp [e1]
        go_wp2_with fail
        go_quiet (fail)
        go_wp2_with fail
        go_roundg (cs.length - (k + 1))
        case measure => omega
        case rel =>
          refine ⟨k + 1, by omega, rfl, by go_num, hq.drewN _, ?_⟩
          show _ ∉ cs.take (k + 1)
          rw [Ht.out, List.mem_append]
          rintro (h | h)
          · exact hno h
          · simp at h; exact e1 h.1
    · have hk' : k = cs.length := by omega
      subst hk'
      rw [List.take_of_length_le (Nat.le_refl _)] at hno
      go_wp2_with fail
      go_ret
      exact ⟨-1, rfl, ⟨fun h => absurd h (by decide), fun h => absurd h hno.out⟩, by omega, (below_alloc _ _).trans (hq.below _)⟩
set_option maxRecDepth 100000 in
theorem containsC_any (v : Value) (cs : List (Int × Int)) (c : Int × Int) (w : World) (h : RdC w v cs) :
    Calls Try.prog 65 #[v, .agg #[.int .i64 c.1, .int .i64 c.2]] w fun e w' => e = .returned (.bool (decide (c ∈ cs))) ∧ Below w.heap.size w w' := by
  obtain ⟨r, d⟩ := c
  dsimp only
  have Hh := Lib.hid h
  obtain ⟨p, cap, rfl, _⟩ := h
  go_enter Try.func65, Try.ntmps65
  go_wp2_with fail
  refine (indexC_any _ cs r d _ (Hh.out.below (below_alloc w _))).mono ?_
  rintro e w1 ⟨x, rfl, hr, hr1, hq⟩
  have Hr := Lib.hid hr
  clear hr
  go_wp2_with fail
  go_ret
  exact ⟨ret_bool (by rw [decide_eq_decide]; exact Hr.out), (below_alloc _ _).trans (hq.mono (by simp))⟩

/-- where the number j stands among the first k -/
def invK (xs : List Int) : Nat → Nat → Int
  | 0, _ => 0
  | k + 1, j => if (j : Int) = xs.getD k 0 then k else invK xs k j
def invL (xs : List Int) : List Int := (List.range xs.length).map (invK xs xs.length)
theorem invL_length (xs : List Int) : (invL xs).length = xs.length := by simp [invL]
theorem invL_getD {xs : List Int} {j : Nat} (h : j < xs.length) : (invL xs).getD j 0 = invK xs xs.length j := by simp [invL, List.getD_eq_getElem?_getD, h]

set_option maxRecDepth 100000 in
set_option maxHeartbeats 2000000 in
theorem specInverse_any (v : Value) (xs : List Int) (w : World) (h : Ints w v xs) (hp : permOk xs = true) :
    Calls Try.prog 86 #[v] w (RetI w (invL xs)) := by
  have Hh := Lib.hid h
  obtain ⟨q, cap, rfl, ⟨hx1, hx⟩, hxc⟩ := h
  obtain ⟨hl1, hl7, hr, _⟩ := of_decide_eq_true hp
  have Hr := Lib.hid hr
  obtain ⟨b, off, rfl, hc⟩ := hxc (by omega)
  have Hc := Lib.hid hc
  obtain ⟨N, hN⟩ : ∃ N, N = xs.length := ⟨_, rfl⟩
  have hmk := run_make_row' (P := Try.prog) 22 3 (.int .i64 0) 8 Try.underlying22 info_int rfl .i64 .i64 N (by omega) (by omega)
  rw [hN] at hmk
  unfold maxLen at hx
  clear hr hxc hp hc
  go_enter Try.func86, Try.ntmps86
  go_wp2_with fail
  go_loopg [4] xs.length (fun g s4 wr => ∃ k : Nat, k ≤ xs.length ∧ g = xs.length - k ∧ s4 = .int .i64 k ∧ Below w.heap.size w wr ∧ Hid (wr.rowIs w.heap.size 3 xs.length (fun j => .int .i64 (invK xs k j))))
  case atStart =>
    refine ⟨0, Nat.zero_le _, rfl, rfl, below_alloc _ _, ?_⟩
    exact (World.rowIs_made w (.int .i64 0) xs.length 3).congr fun j _ => by simp [invK]
  case round =>
    obtain ⟨k, hk, rfl, rfl, hbw, hrow⟩ := hrel
    by_cases hlt : k < xs.length
    · have hx0 := Hr.out _ (getD_mem hlt)
      obtain ⟨m, hm⟩ := Int.eq_ofNat_of_zero_le hx0.1
      have c1 : wr.cell? ⟨b, off + k, none⟩ = some (.int .i64 (m : Int)) := by
        rw [hbw.cell (p := ⟨b, off + k, none⟩) (World.block_lt_of_cell? _ _ (Hc.out k hlt)), Hc.out k hlt]; simp only [iv, hm]
      have hml : m < xs.length := by omega
      obtain ⟨z, c2⟩ : ∃ z, wr.cell? ⟨w.heap.size, m, none⟩ = some (.int .i64 z) := ⟨_, hrow.out.cell hml⟩
      have c3 := hrow.out.frozen m
      have i1 : (k : Int) < (xs.length : Int) := by omega
      have i2 : (m : Int) < (xs.length : Int) := by omega
      have Hm := Lib.hid hm
      have Hrow := Lib.hid hrow.out
      clear hx0 hm hrow
      go_wp2_with fail
      go_roundg (xs.length - (k + 1))
      case measure => omega
      case rel =>
        refine ⟨k + 1, by omega, rfl, by go_num, hbw.setCell (Nat.le_refl _) _, (Hrow.out.set m _).congr fun j hj => ?_⟩
        rw [invK, Hm.out]
        by_cases e : j = m
        · subst e; simp
        · simp [e, show ¬ (j : Int) = (m : Int) by omega]
    · obtain rfl : k = xs.length := by omega
      have i1 : ¬ (xs.length : Int) < (xs.length : Int) := by omega
      have ho := rowIs_ints (xs := invL xs) (by rw [invL_length]; exact hrow.out.congr fun j hj => by rw [iv, invL_getD hj]) (by rw [invL_length]; unfold maxLen; omega)
      rw [invL_length] at ho
      have Ho := Lib.hid ho
      clear ho hrow
      go_wp2_with fail
      go_ret
      exact ⟨_, rfl, Ho.out, hbw⟩

set_option maxRecDepth 100000 in
set_option maxHeartbeats 2000000 in
theorem implInverse_any (v : Value) (xs : List Int) (w : World) (h : Ints w v xs) (hp : permOk xs = true) :
    Calls Try.prog 88 #[v] w (RetI w (invL xs)) := by
  have Hh := Lib.hid h
  obtain ⟨q, cap, rfl, ⟨hx1, hx⟩, hxc⟩ := h
  obtain ⟨hl1, hl7, hr, _⟩ := of_decide_eq_true hp
  have Hp := Lib.hid hp
  have Hr := Lib.hid hr
  obtain ⟨b, off, rfl, hc⟩ := hxc (by omega)
  have Hc := Lib.hid hc
  obtain ⟨N, hN⟩ : ∃ N, N = xs.length := ⟨_, rfl⟩
  have hmk := run_make_row' (P := Try.prog) 22 3 (.int .i64 0) 8 Try.underlying22 info_int rfl .i64 .i64 N (by omega) (by omega)
  rw [hN] at hmk
  clear hN
  unfold maxLen at hx
  clear hr hxc hp hc
  go_enter Try.func88, Try.ntmps88
  go_wp2_with fail
  refine (implIsPerm_any _ xs _ Hh.out).mono ?_
  rintro e w1 ⟨rfl, hq⟩
  rw [Hp.out]
  have Hc1 := Lib.hid (fun j (hj : j < xs.length) => show w1.cell? ⟨b, off + j, none⟩ = some (iv xs j) by rw [hq.cell (World.block_lt_of_cell? _ _ (Hc.out j hj))]; exact Hc.out j hj)
  have Hq := Lib.hid hq
  clear hq
  go_wp2_with fail
  go_loopg [14] xs.length (fun g s14 wr => ∃ k : Nat, k ≤ xs.length ∧ g = xs.length - k ∧ s14 = .int .i64 k ∧ Below w1.heap.size w1 wr ∧ Hid (wr.rowIs w1.heap.size 3 xs.length (fun j => .int .i64 (invK xs k j))))
  case atStart =>
    refine ⟨0, Nat.zero_le _, rfl, rfl, below_alloc _ _, ?_⟩
    exact (World.rowIs_made w1 (.int .i64 0) xs.length 3).congr fun j _ => by simp [invK]
  case round =>
    obtain ⟨k, hk, rfl, rfl, hbw, hrow⟩ := hrel
    by_cases hlt : k < xs.length
    · have hx0 := Hr.out _ (getD_mem hlt)
      obtain ⟨m, hm⟩ := Int.eq_ofNat_of_zero_le hx0.1
      have c1 : wr.cell? ⟨b, off + k, none⟩ = some (.int .i64 (m : Int)) := by
        rw [hbw.cell (p := ⟨b, off + k, none⟩) (World.block_lt_of_cell? _ _ (Hc1.out k hlt)), Hc1.out k hlt]; simp only [iv, hm]
      have hml : m < xs.length := by omega
      obtain ⟨z, c2⟩ : ∃ z, wr.cell? ⟨w1.heap.size, m, none⟩ = some (.int .i64 z) := ⟨_, hrow.out.cell hml⟩
      have c3 := hrow.out.frozen m
      have i1 : (k : Int) < (xs.length : Int) := by omega
      have i2 : (m : Int) < (xs.length : Int) := by omega
      have Hm := Lib.hid hm
      have Hrow := Lib.hid hrow.out
      clear hx0 hm hrow
      go_wp2_with fail
      go_roundg (xs.length - (k + 1))
      case measure => omega
      case rel =>
        refine ⟨k + 1, by omega, rfl, by go_num, hbw.setCell (Nat.le_refl _) _, (Hrow.out.set m _).congr fun j hj => ?_⟩
        rw [invK, Hm.out]
        by_cases e : j = m
        · subst e; simp
        · simp [e, show ¬ (j : Int) = (m : Int) by omega]
    · obtain rfl : k = xs.length := by omega
      have i1 : ¬ (xs.length : Int) < (xs.length : Int) := by omega
      have ho := rowIs_ints (xs := invL xs) (by rw [invL_length]; exact hrow.out.congr fun j hj => by rw [iv, invL_getD hj]) (by rw [invL_length]; unfold maxLen; omega)
      rw [invL_length] at ho
      have Ho := Lib.hid (ho.mono Hq.out.size (Nat.le_refl _))
      clear ho hrow
      go_wp2_with fail
      go_ret
      exact ⟨_, rfl, Ho.out, Hq.out.trans (hbw.mono Hq.out.size)⟩

/-- row i of the diagram, its first k columns -/
def dgIn (xs : List Int) (i k : Nat) : List (Int × Int) := (List.range k).flatMap fun j => if (i : Int) < invK xs xs.length j then [((i : Int), (j : Int))] else []
/-- the first i rows of the diagram -/
def dgUp (xs : List Int) (i : Nat) : List (Int × Int) := (List.range i).flatMap fun a => dgIn xs a (xs.getD a 0).toNat
def diagL (xs : List Int) : List (Int × Int) := dgUp xs xs.length
theorem dgIn_succ (xs : List Int) (i k : Nat) : dgIn xs i (k + 1) = dgIn xs i k ++ if (i : Int) < invK xs xs.length k then [((i : Int), (k : Int))] else [] := flatMap_snoc _ _
theorem dgUp_succ (xs : List Int) (i : Nat) : dgUp xs (i + 1) = dgUp xs i ++ dgIn xs i (xs.getD i 0).toNat := flatMap_snoc _ _
theorem dgIn_len (xs : List Int) (i k : Nat) : (dgIn xs i k).length ≤ k := by
  have := flatMap_len (fun j => if (i : Int) < invK xs xs.length j then [((i : Int), (j : Int))] else []) 1 (fun j => by split <;> simp) k
  rw [Nat.mul_one] at this
  exact this
theorem dgUp_len {xs : List Int} (hr : ∀ x ∈ xs, 0 ≤ x ∧ x < (xs.length : Int)) (hl : xs.length ≤ 7) : ∀ i, i ≤ xs.length → (dgUp xs i).length ≤ i * 7
  | 0, _ => by simp [dgUp]
  | i + 1, hi => by
    have ih := dgUp_len hr hl i (by omega)
    have h1 := dgIn_len xs i (xs.getD i 0).toNat
    have h2 := hr _ (getD_mem (show i < xs.length by omega))
    rw [dgUp_succ, List.length_append]
    omega
/-- what is owned with elements of two kinds lies in two blocks -/
theorem Own.apart {w : World} {lo hi lo' hi' : Nat} {T T' : TypeId} {s s' : Nat} {v v' : Value} {n n' : Nat} {xs ys : List Value} (h : Own w lo hi T s v n xs) (h' : Own w lo' hi' T' s' v' n' ys) (hT : T ≠ T') : ∀ k, v.ownBlock = some k → v'.ownBlock ≠ some k := by
  intro k h1 h2
  obtain ⟨c, fz, e⟩ := Lib.ownsRow_kind h.1 k h1
  obtain ⟨c', fz', e'⟩ := Lib.ownsRow_kind h'.1 k h2
  rw [e] at e'
  injection e' with e'
  injection e' with _ e' _
  exact hT e'
theorem Own.grown {w w' : World} {lo hi : Nat} {T : TypeId} {s n : Nat} {v u : Value} {xs : List Value} (h : Own w lo hi T s v n xs) (hg : w.grownBy w' u.ownBlock) (hne : ∀ k, v.ownBlock = some k → u.ownBlock ≠ some k) : Own w' lo hi T s v n xs :=
  ⟨ownsRow_of_block h.1 fun k hk => hg.block k (Own.block h hk).2.2 fun e => hne k hk e.symm, h.2⟩

theorem dg_step {w2 wr w' : World} {lo lo2 hi2 : Nat} {o : Obj} {s vb : Value} {cs : List (Int × Int)} {L : List Int} (hlo : lo ≤ wr.heap.size) (hoc : OwnC wr lo wr.heap.size s cs) (hob : OwnI 3 wr lo2 hi2 vb L) (hbw : Below lo w2 wr)
    (hg : (wr.alloc o).grownBy w' s.ownBlock) : Below lo w2 w' ∧ OwnI 3 w' lo2 hi2 vb L :=
  ⟨hbw.trans (((below_alloc wr o).mono hlo).trans (grownBy_below hg hoc.blocks (Nat.le_refl _) (by rw [size_alloc]; omega))),
    Own.grown (hob.below (below_alloc wr o)) hg (Own.apart (hob.below (below_alloc wr o)) (hoc.below (below_alloc wr o)) (by decide))⟩
theorem dgIn_yes {xs : List Int} {i k : Nat} (h : (i : Int) < invK xs xs.length k) : dgIn xs i (k + 1) = dgIn xs i k ++ [((i : Int), (k : Int))] := by rw [dgIn_succ, if_pos h]
theorem dgIn_no {xs : List Int} {i k : Nat} (h : ¬ (i : Int) < invK xs xs.length k) : dgIn xs i (k + 1) = dgIn xs i k := by rw [dgIn_succ, if_neg h, List.append_nil]

/-- a call returned these cells, in new memory, and changed nothing that was there -/
def RetC (w : World) (cs : List (Int × Int)) (e : Ending) (w' : World) : Prop := ∃ u, e = .returned u ∧ OwnC w' w.heap.size w'.heap.size u cs ∧ Below w.heap.size w w'

set_option maxRecDepth 100000 in
set_option maxHeartbeats 4000000 in
theorem specDiagram_any (v : Value) (xs : List Int) (w : World) (h : Ints w v xs) (hp : permOk xs = true) :
    Calls Try.prog 60 #[v] w (RetC w (diagL xs)) := by
  have Hh := Lib.hid h
  obtain ⟨q, cap, rfl, ⟨hx1, hx⟩, hxc⟩ := h
  obtain ⟨hl1, hl7, hr, _⟩ := of_decide_eq_true hp
  have Hp := Lib.hid hp
  have Hr := Lib.hid hr
  obtain ⟨b, off, rfl, hc⟩ := hxc (by omega)
  have Hc := Lib.hid hc
  have Hlen := Lib.hid (fun i hi => dgUp_len hr hl7 i hi)
  unfold maxLen at hx
  clear hr hxc hp hc
  go_enter Try.func60, Try.ntmps60
  go_wp2_with fail
  refine (specIsPerm_any _ xs _ Hh.out).mono ?_
  rintro e w1 ⟨rfl, hq⟩
  rw [Hp.out]
  have Hq := Lib.hid hq
  have Hqz := Lib.hid hq.size
  clear hq
  go_wp2_with fail
  refine (specInverse_any _ xs _ ((Hh.out.qt Hq.out).below (below_alloc w1 _)) Hp.out).mono ?_
  rintro e w2 ⟨u, rfl, hob, hb2⟩
  obtain ⟨pb, kb, rfl, _, _⟩ := hob.shape
  rw [invL_length] at hob ⊢
  have hm0 : OwnC w2 w1.heap.size (w1.heap.size + 1) (.slice (some ⟨w1.heap.size, 0, none⟩) 0 0) [] := (OwnC.made0 w1).below hb2
  have Hob := Lib.hid hob
  have Hm0 := Lib.hid hm0
  have hs2 := hb2.size
  rw [size_alloc] at hs2
  have Hb2 : Hid (Below w.heap.size w w2) := Lib.hid ((Hq.out.below _).trans (((below_alloc w1 _).trans (hb2.mono (by rw [size_alloc]; omega))).mono (by have := Hqz.out; omega)))
  clear hob hm0 hb2
  have hlo : w.heap.size ≤ w1.heap.size := by have := Hqz.out; omega
  go_wp2_with fail
  go_loopg [3, 5] xs.length (fun g s3 s5 wr => ∃ i : Nat, i ≤ xs.length ∧ g = xs.length - i ∧ s5 = .int .i64 i ∧ Hid (Below w1.heap.size w2 wr) ∧ Hid (OwnC wr w1.heap.size wr.heap.size s3 (dgUp xs i)) ∧ Hid (OwnI 3 wr (w1.heap.size + 1) w2.heap.size (.slice pb xs.length kb) (invL xs)))
  case atStart =>
    refine ⟨0, Nat.zero_le _, rfl, rfl, Below.refl _ _, Hm0.out.mono (Nat.le_refl _) (by omega), ?_⟩
    have := Hob.out
    rw [size_alloc] at this
    exact this
  case round =>
    obtain ⟨i, hi, rfl, rfl, hbw, hoc, hob⟩ := hrel
    obtain ⟨wo, rfl⟩ : ∃ x : World, x = wr := ⟨_, rfl⟩
    by_cases hlt : i < xs.length
    · have hx0 := Hr.out _ (getD_mem hlt)
      obtain ⟨m, hm⟩ := Int.eq_ofNat_of_zero_le hx0.1
      have hml : m < xs.length := by omega
      have i1 : (i : Int) < (xs.length : Int) := by omega
      have Hm := Lib.hid hm
      have Hw := Lib.hid (fun W (hW : Below w.heap.size w W) => show W.cell? ⟨b, off + i, none⟩ = some (.int .i64 (m : Int)) by rw [hW.cell (p := ⟨b, off + i, none⟩) (World.block_lt_of_cell? _ _ (Hc.out i hlt)), Hc.out i hlt]; simp only [iv, hm])
      have Hwo := Lib.hid (Hb2.out.trans (hbw.out.mono hlo))
      clear hx0 hm
      obtain ⟨p3, k3, rfl, _, _⟩ := hoc.out.shape
      have Hoc := Lib.hid hoc.out
      have Hob2 := Lib.hid hob.out
      have Hbw := Lib.hid hbw.out
      clear hoc hob hbw
      go_wp2_with fail
      go_loopg [3, 6] m (fun g s3 s6 wr => ∃ j : Nat, j ≤ m ∧ g = m - j ∧ s6 = .int .i64 j ∧ Hid (Below w1.heap.size w2 wr) ∧ Hid (OwnC wr w1.heap.size wr.heap.size s3 (dgUp xs i ++ dgIn xs i j)) ∧ Hid (OwnI 3 wr (w1.heap.size + 1) w2.heap.size (.slice pb xs.length kb) (invL xs)))
      case atStart =>
        refine ⟨0, Nat.zero_le _, rfl, rfl, Hbw.out, ?_, Hob2.out⟩
        have e : dgUp xs i ++ dgIn xs i 0 = dgUp xs i := by simp [dgIn]
        rw [e]; exact Hoc.out
      case round =>
        obtain ⟨j, hj, rfl, rfl, hbw, hoc, hob⟩ := hrel
        have cx := Hw.out wr (Hb2.out.trans (hbw.out.mono hlo))
        by_cases hjl : j < m
        · have j1 : (j : Int) < (m : Int) := by omega
          have hb := hob.out.fn
          rw [invL_length] at hb
          obtain ⟨gb, rfl, _, _, _⟩ := hb.at_ (by omega)
          have cb := hb.cell (j := j) (by omega)
          rw [iv, invL_getD (by omega)] at cb
          obtain ⟨X, hX⟩ : ∃ X, X = invK xs xs.length j := ⟨_, rfl⟩
          rw [← hX] at cb
          have HX := Lib.hid hX
          obtain ⟨p4, k4, rfl, _, _⟩ := hoc.out.shape
          obtain ⟨cs, hcs⟩ : ∃ cs, cs = dgUp xs i ++ dgIn xs i j := ⟨_, rfl⟩
          rw [← hcs] at hoc ⊢
          have hcl : cs.length + 1 ≤ 100000 := by
            have a1 := Hlen.out i hi
            have a2 := dgIn_len xs i j
            rw [hcs, List.length_append]; omega
          have Hcs := Lib.hid hcs
          have Hcl := Lib.hid hcl
          have Hoc2 := Lib.hid hoc.out
          have Hob3 := Lib.hid hob.out
          have Hbw2 := Lib.hid hbw.out
          have hsr := hbw.out.size
          have k1 : (j : Int) < (xs.length : Int) := by omega
          clear hb hX hcs hcl hoc hob hbw
          by_cases hg : (i : Int) < X
          · go_wp2_with (at_builtin; go_must (refine wpList_append_C rfl (.tmp 33) (.tmp 37) rfl w1.heap.size wr.heap.size _ cs rfl (Hoc2.out.below (below_alloc wr _)) (by rw [size_alloc]; omega) wr.heap.size 1 ((i : Int), (j : Int)) rfl (cell_of_blk (heap_alloc_top wr _) rfl) (cell_of_blk (heap_alloc_top wr _) rfl) Hcl.out ?_; intro v' w' ho' hg'))
            go_roundg (m - (j + 1))
            case measure => omega
            case rel =>
              obtain ⟨t1, t2⟩ := dg_step (by omega) Hoc2.out Hob3.out Hbw2.out hg'
              refine ⟨j + 1, by omega, rfl, by go_num, t1, ?_, t2⟩
              rw [dgIn_yes (by rw [← HX.out]; exact hg), ← List.append_assoc, ← Hcs.out]
              exact ho'
          · go_wp2_with fail
            go_roundg (m - (j + 1))
            case measure => omega
            case rel =>
              refine ⟨j + 1, by omega, rfl, by go_num, Hbw2.out, ?_, Hob3.out⟩
              rw [dgIn_no (by rw [← HX.out]; omega), ← Hcs.out]
              exact Hoc2.out
        · obtain rfl : j = m := by omega
          have j1 : ¬ (j : Int) < (j : Int) := by omega
          have Hoc2 := Lib.hid hoc.out
          have Hob3 := Lib.hid hob.out
          have Hbw2 := Lib.hid hbw.out
          clear hoc hob hbw
          go_wp2_with fail
          go_roundg (xs.length - (i + 1))
          case measure => omega
          case rel =>
            refine ⟨i + 1, by omega, rfl, by go_num, Hbw2.out, ?_, Hob3.out⟩
            rw [dgUp_succ, Hm.out]
            exact Hoc2.out
    · obtain rfl : i = xs.length := by omega
      have i1 : ¬ (xs.length : Int) < (xs.length : Int) := by omega
      have Hoc2 := Lib.hid hoc.out
      have Hbw2 := Lib.hid hbw.out
      clear hoc hob hbw
      go_wp2_with fail
      go_ret
      exact ⟨_, rfl, Hoc2.out.mono hlo (Nat.le_refl _), Hb2.out.trans (Hbw2.out.mono hlo)⟩

set_option maxRecDepth 100000 in
set_option maxHeartbeats 4000000 in
theorem implDiagram_any (v : Value) (xs : List Int) (w : World) (h : Ints w v xs) (hp : permOk xs = true) :
    Calls Try.prog 64 #[v] w (RetC w (diagL xs)) := by
  have Hh := Lib.hid h
  obtain ⟨q, cap, rfl, ⟨hx1, hx⟩, hxc⟩ := h
  obtain ⟨hl1, hl7, hr, _⟩ := of_decide_eq_true hp
  have Hp := Lib.hid hp
  have Hr := Lib.hid hr
  obtain ⟨b, off, rfl, hc⟩ := hxc (by omega)
  have Hc := Lib.hid hc
  have Hlen := Lib.hid (fun i hi => dgUp_len hr hl7 i hi)
  unfold maxLen at hx
  clear hr hxc hp hc
  go_enter Try.func64, Try.ntmps64
  go_wp2_with fail
  have Hz0 := Lib.hid (OwnC.made0 w)
  refine (implIsPerm_any _ xs _ (Hh.out.below (below_alloc w _))).mono ?_
  rintro e w1 ⟨rfl, hq⟩
  rw [Hp.out]
  have Hm1 := Lib.hid (Hz0.out.below hq)
  have hs1 := hq.size
  rw [size_alloc] at hs1
  have Hb1 := Lib.hid ((below_alloc w _).trans (hq.mono (by rw [size_alloc]; omega)))
  clear hq
  go_wp2_with fail
  refine (implInverse_any _ xs _ (Hh.out.below Hb1.out) Hp.out).mono ?_
  rintro e w2 ⟨u, rfl, hob, hb2⟩
  obtain ⟨pb, kb, rfl, _, _⟩ := hob.shape
  rw [invL_length] at hob ⊢
  have Hob := Lib.hid (hob.mono hs1 (Nat.le_refl _))
  have Hm0 := Lib.hid (Hm1.out.below hb2)
  have hs2 := hb2.size
  have Hb2 : Hid (Below w.heap.size w w2) := Lib.hid (Hb1.out.trans (hb2.mono (by omega)))
  clear hob hb2
  go_wp2_with fail
  go_loopg [3, 17] xs.length (fun g s3 s5 wr => ∃ i : Nat, i ≤ xs.length ∧ g = xs.length - i ∧ s5 = .int .i64 i ∧ Hid (Below w.heap.size w2 wr) ∧ Hid (OwnC wr w.heap.size wr.heap.size s3 (dgUp xs i)) ∧ Hid (OwnI 3 wr (w.heap.size + 1) w2.heap.size (.slice pb xs.length kb) (invL xs)))
  case atStart =>
    refine ⟨0, Nat.zero_le _, rfl, rfl, Below.refl _ _, Hm0.out.mono (Nat.le_refl _) (by omega), ?_⟩
    exact Hob.out
  case round =>
    obtain ⟨i, hi, rfl, rfl, hbw, hoc, hob⟩ := hrel
    obtain ⟨wo, rfl⟩ : ∃ x : World, x = wr := ⟨_, rfl⟩
    by_cases hlt : i < xs.length
    · have hx0 := Hr.out _ (getD_mem hlt)
      obtain ⟨m, hm⟩ := Int.eq_ofNat_of_zero_le hx0.1
      have hml : m < xs.length := by omega
      have i1 : (i : Int) < (xs.length : Int) := by omega
      have Hm := Lib.hid hm
      have Hw := Lib.hid (fun W (hW : Below w.heap.size w W) => show W.cell? ⟨b, off + i, none⟩ = some (.int .i64 (m : Int)) by rw [hW.cell (p := ⟨b, off + i, none⟩) (World.block_lt_of_cell? _ _ (Hc.out i hlt)), Hc.out i hlt]; simp only [iv, hm])
      have Hwo := Lib.hid (Hb2.out.trans hbw.out)
      clear hx0 hm
      obtain ⟨p3, k3, rfl, _, _⟩ := hoc.out.shape
      have Hoc := Lib.hid hoc.out
      have Hob2 := Lib.hid hob.out
      have Hbw := Lib.hid hbw.out
      clear hoc hob hbw
      have cx0 := Hw.out wo Hwo.out
      go_wp2_with fail
      clear cx0
      go_loopg [3, 23] m (fun g s3 s6 wr => ∃ j : Nat, j ≤ m ∧ g = m - j ∧ s6 = .int .i64 j ∧ Hid (Below w.heap.size w2 wr) ∧ Hid (OwnC wr w.heap.size wr.heap.size s3 (dgUp xs i ++ dgIn xs i j)) ∧ Hid (OwnI 3 wr (w.heap.size + 1) w2.heap.size (.slice pb xs.length kb) (invL xs)))
      case atStart =>
        refine ⟨0, Nat.zero_le _, rfl, rfl, Hbw.out, ?_, Hob2.out⟩
        have e : dgUp xs i ++ dgIn xs i 0 = dgUp xs i := by simp [dgIn]
        rw [e]; exact Hoc.out
      case round =>
        obtain ⟨j, hj, rfl, rfl, hbw, hoc, hob⟩ := hrel
        have cx := Hw.out wr (Hb2.out.trans hbw.out)
        by_cases hjl : j < m
        · have j1 : (j : Int) < (m : Int) := by omega
          have hb := hob.out.fn
          rw [invL_length] at hb
          obtain ⟨gb, rfl, _, _, _⟩ := hb.at_ (by omega)
          have cb := hb.cell (j := j) (by omega)
          rw [iv, invL_getD (by omega)] at cb
          obtain ⟨X, hX⟩ : ∃ X, X = invK xs xs.length j := ⟨_, rfl⟩
          rw [← hX] at cb
          have HX := Lib.hid hX
          obtain ⟨p4, k4, rfl, _, _⟩ := hoc.out.shape
          obtain ⟨cs, hcs⟩ : ∃ cs, cs = dgUp xs i ++ dgIn xs i j := ⟨_, rfl⟩
          rw [← hcs] at hoc ⊢
          have hcl : cs.length + 1 ≤ 100000 := by
            have a1 := Hlen.out i hi
            have a2 := dgIn_len xs i j
            rw [hcs, List.length_append]; omega
          have Hcs := Lib.hid hcs
          have Hcl := Lib.hid hcl
          have Hoc2 := Lib.hid hoc.out
          have Hob3 := Lib.hid hob.out
          have Hbw2 := Lib.hid hbw.out
          have hsr := hbw.out.size
          have k1 : (j : Int) < (xs.length : Int) := by omega
          clear hb hX hcs hcl hoc hob hbw
          by_cases hg : (i : Int) < X
          · go_wp2_with (at_builtin; go_must (refine wpList_append_C rfl (.tmp 32) (.tmp 36) rfl w.heap.size wr.heap.size _ cs rfl (Hoc2.out.below (below_alloc wr _)) (by rw [size_alloc]; omega) wr.heap.size 1 ((i : Int), (j : Int)) rfl (cell_of_blk (heap_alloc_top wr _) rfl) (cell_of_blk (heap_alloc_top wr _) rfl) Hcl.out ?_; intro v' w' ho' hg'))
            go_roundg (m - (j + 1))
            case measure => omega
            case rel =>
              obtain ⟨t1, t2⟩ := dg_step (by omega) Hoc2.out Hob3.out Hbw2.out hg'
              refine ⟨j + 1, by omega, rfl, by go_num, t1, ?_, t2⟩
              rw [dgIn_yes (by rw [← HX.out]; exact hg), ← List.append_assoc, ← Hcs.out]
              exact ho'
          · go_wp2_with fail
            go_roundg (m - (j + 1))
            case measure => omega
            case rel =>
              refine ⟨j + 1, by omega, rfl, by go_num, Hbw2.out, ?_, Hob3.out⟩
              rw [dgIn_no (by rw [← HX.out]; omega), ← Hcs.out]
              exact Hoc2.out
        · obtain rfl : j = m := by omega
          have j1 : ¬ (j : Int) < (j : Int) := by omega
          have Hoc2 := Lib.hid hoc.out
          have Hob3 := Lib.hid hob.out
          have Hbw2 := Lib.hid hbw.out
          clear hoc hob hbw
          go_wp2_with fail
          go_roundg (xs.length - (i + 1))
          case measure => omega
          case rel =>
            refine ⟨i + 1, by omega, rfl, by go_num, Hbw2.out, ?_, Hob3.out⟩
            rw [dgUp_succ, Hm.out]
            exact Hoc2.out
    · obtain rfl : i = xs.length := by omega
      have i1 : ¬ (xs.length : Int) < (xs.length : Int) := by omega
      have Hoc2 := Lib.hid hoc.out
      have Hbw2 := Lib.hid hbw.out
      clear hoc hob hbw
      go_wp2_with fail
      go_ret
      exact ⟨_, rfl, Hoc2.out, Hb2.out.trans Hbw2.out⟩

end Go.Proofs.Ytejoapielndnnaa
