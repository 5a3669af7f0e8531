/-
  The essential cells of a permutation, on both sides.
-/
import Derived.Test.YtejoapielndnnaaEss
namespace Go.Proofs.Ytejoapielndnnaa
set_option linter.all false
open Go.RowKit

/-- neither the cell below nor the cell to the right is there -/
def esP (cs : List (Int × Int)) (c : Int × Int) : Bool := decide ((c.1 + 1, c.2) ∉ cs ∧ (c.1, c.2 + 1) ∉ cs)
def essL (xs : List Int) : List (Int × Int) := (diagL xs).filter (esP (diagL xs))
theorem blk2 {w : World} {b : Nat} {x0 x1 : Value} {T : TypeId} (h : w.heap[b]? = some (.cells #[x0, x1] T (0, 0))) :
    w.cell? ⟨b, 0, none⟩ = some x0 ∧ w.cell? ⟨b, 1, none⟩ = some x1 ∧ (∀ j, w.frozen? ⟨b, j, none⟩ = false) ∧ b < w.heap.size :=
  ⟨cell_of_blk h rfl, cell_of_blk h rfl, free_of_blk h, (Array.getElem?_eq_some_iff.1 h).1⟩
theorem mem_dgIn {xs : List Int} {i k : Nat} {c : Int × Int} (h : c ∈ dgIn xs i k) : ∃ j : Nat, j < k ∧ c = ((i : Int), (j : Int)) := by
  unfold dgIn at h
  obtain ⟨j, hj, h⟩ := List.mem_flatMap.1 h
  refine ⟨j, by simpa using hj, ?_⟩
  split at h
  · simpa using h
  · simp at h
theorem diag_rng {xs : List Int} (hp : permOk xs = true) : ∀ c ∈ diagL xs, 0 ≤ c.1 ∧ c.1 < 7 ∧ 0 ≤ c.2 ∧ c.2 < 7 := fun c hc => by
  obtain ⟨hl1, hl7, hr, _⟩ := of_decide_eq_true hp
  unfold diagL dgUp at hc
  obtain ⟨i, hi, h⟩ := List.mem_flatMap.1 hc
  have hi : i < xs.length := by simpa using hi
  obtain ⟨j, hj, rfl⟩ := mem_dgIn h
  have := hr _ (getD_mem hi)
  dsimp only
  omega
theorem diag_len {xs : List Int} (hp : permOk xs = true) : (diagL xs).length ≤ 49 := by
  obtain ⟨hl1, hl7, hr, _⟩ := of_decide_eq_true hp
  have := dgUp_len hr hl7 xs.length (Nat.le_refl _)
  unfold diagL
  omega

set_option maxRecDepth 100000 in
set_option maxHeartbeats 4000000 in
theorem specEssential_any (v : Value) (xs : List Int) (w : World) (h : Ints w v xs) (hp : permOk xs = true) :
    Calls Try.prog 29 #[v] w (RetC w (essL xs)) := by
  have Hh := Lib.hid h
  have Hp := Lib.hid hp
  obtain ⟨q, cap, rfl, _, _⟩ := h
  have hrg := diag_rng hp
  have hdl := diag_len hp
  obtain ⟨cs, hcs⟩ : ∃ cs, cs = diagL xs := ⟨_, rfl⟩
  rw [← hcs] at hrg hdl
  have He := Lib.hid (show essL xs = cs.filter (esP cs) by rw [essL, hcs])
  have Hrg := Lib.hid hrg
  have Hcs := Lib.hid hcs
  clear hp hcs hrg
  go_enter Try.func29, Try.ntmps29
  go_wp2_with fail
  refine (specDiagram_any _ xs _ Hh.out Hp.out).mono ?_
  rintro e w1 ⟨u, rfl, hol, hb1⟩
  rw [← Hcs.out] at hol
  obtain ⟨pl, kl, rfl, _, _⟩ := hol.shape
  have Hol := Lib.hid hol.rd
  have Hb1 := Lib.hid hb1
  have Hm0 := Lib.hid (OwnC.made0 w1)
  clear hol hb1
  go_wp2_with fail
  go_loopg [4, 5] cs.length (fun g s4 s5 wr => ∃ k : Nat, k ≤ cs.length ∧ g = cs.length - k ∧ s5 = .int .i64 k ∧ Hid (Below w1.heap.size w1 wr) ∧ Hid (OwnC wr w1.heap.size wr.heap.size s4 ((cs.take k).filter (esP cs))))
  case atStart =>
    refine ⟨0, Nat.zero_le _, rfl, rfl, (below_alloc w1 _), ?_⟩
    exact Hm0.out.mono (Nat.le_refl _) (by rw [size_alloc]; exact Nat.le_refl _)
  case round =>
    obtain ⟨k, hk, rfl, rfl, hbw, hoc⟩ := hrel
    have hsr := hbw.out.size
    by_cases hlt : k < cs.length
    · have hlt2 : (k : Int) < (cs.length : Int) := by omega
      obtain ⟨_, _, e, ⟨hx1, hx2⟩, hxc⟩ := Hol.out
      injection e with e1 _ e3
      subst e1 e3
      obtain ⟨b, rfl, hc⟩ := hxc (by omega)
      have Hl := Lib.hid (Hol.out.below hbw.out)
      have c1 : wr.cell? ⟨b, k * 2, none⟩ = some (.int .i64 (cs.getD k (0, 0)).1) := by rw [hbw.out.cell (World.block_lt_of_cell? _ _ (hc k hlt).1)]; exact (hc k hlt).1
      have c2 : wr.cell? ⟨b, k * 2 + 1, none⟩ = some (.int .i64 (cs.getD k (0, 0)).2) := by rw [hbw.out.cell (World.block_lt_of_cell? _ _ (hc k hlt).2)]; exact (hc k hlt).2
      obtain ⟨e, he⟩ : ∃ e, e = cs.getD k (0, 0) := ⟨_, rfl⟩
      rw [← he] at c1 c2
      have ht : cs.take (k + 1) = cs.take k ++ [e] := by rw [he, List.take_add_one, List.getElem?_eq_getElem hlt, List.getD_eq_getElem?_getD, List.getElem?_eq_getElem hlt]; rfl
      obtain ⟨X, Y⟩ := e
      dsimp only at c1 c2
      obtain ⟨g1, g2, g3, g4⟩ := Hrg.out (X, Y) (List.mem_of_mem_take (i := k + 1) (by rw [ht]; simp))
      dsimp only at g1 g2 g3 g4
      have Ht := Lib.hid ht
      have Hoc := Lib.hid hoc.out
      have Hbw := Lib.hid hbw.out
      obtain ⟨p4, k4, rfl, _, _⟩ := hoc.out.shape
      obtain ⟨ds, hds⟩ : ∃ ds, ds = (cs.take k).filter (esP cs) := ⟨_, rfl⟩
      rw [← hds] at Hoc ⊢
      have hdl2 : ds.length + 1 ≤ 100000 := by
        have a1 : ds.length ≤ (cs.take k).length := by rw [hds]; exact List.length_filter_le _ _
        rw [List.length_take] at a1; omega
      have Hds := Lib.hid hds
      have Hdl2 := Lib.hid hdl2
      have z0 := Lib.hid (heap_alloc_top wr (.cells #[.int .i64 X, .int .i64 Y] 55))
      have Hba := Lib.hid (below_alloc wr (.cells #[.int .i64 X, .int .i64 Y] 55))
      have hsa : (wr.alloc (.cells #[.int .i64 X, .int .i64 Y] 55)).heap.size = wr.heap.size + 1 := size_alloc _ _
      clear hc he ht hoc hbw hds hxc hx1 hx2 hdl2
      go_wp2_with fail
      generalize wr.alloc (.cells #[.int .i64 X, .int .i64 Y] 55) = wa at *
      refine (specHasCell_any _ cs (X + 1, Y) _ (Hl.out.below Hba.out)).mono ?_
      rintro e w3 ⟨rfl, hb3⟩
      have Z3 := Lib.hid (blk_later z0.out hb3)
      have Hb3 := Lib.hid (Hba.out.trans (hb3.mono (by omega)))
      have hs3 := hb3.size
      clear hb3 z0
      obtain ⟨d0, d1, df, dz⟩ := blk2 Z3.out
      by_cases m1 : (X + 1, Y) ∈ cs
      · have hno : esP cs (X, Y) = false := by simp [esP, m1]
        have Hno := Lib.hid hno
        have m1' : decide ((X + 1, Y) ∈ cs) = true := by simp [m1]
        rw [m1']
        clear m1 m1' hno
        go_wp2_with fail
        go_roundg (cs.length - (k + 1))
        case measure => omega
        case rel =>
          refine ⟨k + 1, by omega, rfl, by go_num, Hbw.out.trans (Hb3.out.mono (by omega)), ?_⟩
          rw [Ht.out, List.filter_append, ← Hds.out]
          simp only [List.filter_cons, List.filter_nil, Hno.out, Bool.false_eq_true, if_false, List.append_nil]
          exact (Hoc.out.below Hb3.out).mono (Nat.le_refl _) (by omega)
      · have m1' : decide ((X + 1, Y) ∈ cs) = false := by simp [m1]
        rw [m1']
        have M1 := Lib.hid m1
        clear m1 m1'
        go_wp2_with fail
        refine (specHasCell_any _ cs (X, Y + 1) _ (Hl.out.below Hb3.out)).mono ?_
        rintro e w4 ⟨rfl, hb4⟩
        have Z4 := Lib.hid (blk_later Z3.out hb4)
        have Hb4 := Lib.hid (Hb3.out.trans (hb4.mono (by omega)))
        have hs4 := hb4.size
        clear hb4 Z3 d0 d1 df dz
        obtain ⟨d0, d1, df, dz⟩ := blk2 Z4.out
        by_cases m2 : (X, Y + 1) ∈ cs
        · have hno : esP cs (X, Y) = false := by simp [esP, m2]
          have Hno := Lib.hid hno
          have m2' : decide ((X, Y + 1) ∈ cs) = true := by simp [m2]
          rw [m2']
          clear m2 m2' hno
          go_wp2_with fail
          go_roundg (cs.length - (k + 1))
          case measure => omega
          case rel =>
            refine ⟨k + 1, by omega, rfl, by go_num, Hbw.out.trans (Hb4.out.mono (by omega)), ?_⟩
            rw [Ht.out, List.filter_append, ← Hds.out]
            simp only [List.filter_cons, List.filter_nil, Hno.out, Bool.false_eq_true, if_false, List.append_nil]
            exact (Hoc.out.below Hb4.out).mono (Nat.le_refl _) (by omega)
        · have hyes : esP cs (X, Y) = true := by simp [esP, m2, M1.out]
          have Hyes := Lib.hid hyes
          have m2' : decide ((X, Y + 1) ∈ cs) = false := by simp [m2]
          rw [m2']
          clear m2 m2' hyes
          go_wp2_with (at_builtin; go_must (refine wpList_append_C rfl (.tmp 40) (.tmp 42) rfl w1.heap.size wr.heap.size _ ds rfl ((Hoc.out.below Hb4.out).below (below_alloc w4 _)) (by rw [size_alloc]; omega) w4.heap.size 1 (X, Y) rfl (cell_of_blk (heap_alloc_top w4 _) rfl) (cell_of_blk (heap_alloc_top w4 _) rfl) Hdl2.out ?_; intro v' w' ho' hg'))
          go_roundg (cs.length - (k + 1))
          case measure => omega
          case rel =>
            refine ⟨k + 1, by omega, rfl, by go_num, (Hbw.out.trans (Hb4.out.mono (by omega))).trans (((below_alloc w4 _).mono (by omega)).trans (grownBy_below hg' Hoc.out.blocks (Nat.le_refl _) (by rw [size_alloc]; omega))), ?_⟩
            rw [Ht.out, List.filter_append, ← Hds.out]
            simp only [List.filter_cons, List.filter_nil, Hyes.out, if_true]
            exact ho'
    · obtain rfl : k = cs.length := by omega
      have i1 : ¬ (cs.length : Int) < (cs.length : Int) := by omega
      rw [List.take_of_length_le (Nat.le_refl _)] at hoc
      have Hoc2 := Lib.hid hoc.out
      have Hbw2 := Lib.hid hbw.out
      clear hoc hbw
      go_wp2_with fail
      go_ret
      exact ⟨_, rfl, by rw [He.out]; exact Hoc2.out.mono Hb1.out.size (Nat.le_refl _), Hb1.out.trans (Hbw2.out.mono Hb1.out.size)⟩

set_option maxRecDepth 100000 in
set_option maxHeartbeats 4000000 in
theorem implEssential_any (v : Value) (xs : List Int) (w : World) (h : Ints w v xs) (hp : permOk xs = true) :
    Calls Try.prog 33 #[v] w (RetC w (essL xs)) := by
  have Hh := Lib.hid h
  have Hp := Lib.hid hp
  obtain ⟨q, cap, rfl, _, _⟩ := h
  have hrg := diag_rng hp
  have hdl := diag_len hp
  obtain ⟨cs, hcs⟩ : ∃ cs, cs = diagL xs := ⟨_, rfl⟩
  rw [← hcs] at hrg hdl
  have He := Lib.hid (show essL xs = cs.filter (esP cs) by rw [essL, hcs])
  have Hrg := Lib.hid hrg
  have Hcs := Lib.hid hcs
  clear hp hcs hrg
  go_enter Try.func33, Try.ntmps33
  go_wp2_with fail
  refine (implDiagram_any _ xs _ Hh.out Hp.out).mono ?_
  rintro e w1 ⟨u, rfl, hol, hb1⟩
  rw [← Hcs.out] at hol
  obtain ⟨pl, kl, rfl, _, _⟩ := hol.shape
  have Hol := Lib.hid hol.rd
  have Hb1 := Lib.hid hb1
  have Hm0 := Lib.hid (OwnC.made0 w1)
  clear hol hb1
  go_wp2_with fail
  go_loopg [4, 12] cs.length (fun g s4 s12 wr => ∃ k : Nat, k ≤ cs.length ∧ g = cs.length - k ∧ s12 = .int .i64 k ∧ Hid (Below w1.heap.size w1 wr) ∧ Hid (OwnC wr w1.heap.size wr.heap.size s4 ((cs.take k).filter (esP cs))))
  case atStart =>
    refine ⟨0, Nat.zero_le _, rfl, rfl, (below_alloc w1 _), ?_⟩
    exact Hm0.out.mono (Nat.le_refl _) (by rw [size_alloc]; exact Nat.le_refl _)
  case round =>
    obtain ⟨k, hk, rfl, rfl, hbw, hoc⟩ := hrel
    have hsr := hbw.out.size
    by_cases hlt : k < cs.length
    · have hlt2 : (k : Int) < (cs.length : Int) := by omega
      obtain ⟨_, _, e, ⟨hx1, hx2⟩, hxc⟩ := Hol.out
      injection e with e1 _ e3
      subst e1 e3
      obtain ⟨b, rfl, hc⟩ := hxc (by omega)
      have Hl := Lib.hid (Hol.out.below hbw.out)
      have c1 : wr.cell? ⟨b, k * 2, none⟩ = some (.int .i64 (cs.getD k (0, 0)).1) := by rw [hbw.out.cell (World.block_lt_of_cell? _ _ (hc k hlt).1)]; exact (hc k hlt).1
      have c2 : wr.cell? ⟨b, k * 2 + 1, none⟩ = some (.int .i64 (cs.getD k (0, 0)).2) := by rw [hbw.out.cell (World.block_lt_of_cell? _ _ (hc k hlt).2)]; exact (hc k hlt).2
      obtain ⟨e, he⟩ : ∃ e, e = cs.getD k (0, 0) := ⟨_, rfl⟩
      rw [← he] at c1 c2
      have ht : cs.take (k + 1) = cs.take k ++ [e] := by rw [he, List.take_add_one, List.getElem?_eq_getElem hlt, List.getD_eq_getElem?_getD, List.getElem?_eq_getElem hlt]; rfl
      obtain ⟨X, Y⟩ := e
      dsimp only at c1 c2
      obtain ⟨g1, g2, g3, g4⟩ := Hrg.out (X, Y) (List.mem_of_mem_take (i := k + 1) (by rw [ht]; simp))
      dsimp only at g1 g2 g3 g4
      have Ht := Lib.hid ht
      have Hoc := Lib.hid hoc.out
      have Hbw := Lib.hid hbw.out
      obtain ⟨p4, k4, rfl, _, _⟩ := hoc.out.shape
      obtain ⟨ds, hds⟩ : ∃ ds, ds = (cs.take k).filter (esP cs) := ⟨_, rfl⟩
      rw [← hds] at Hoc ⊢
      have hdl2 : ds.length + 1 ≤ 100000 := by
        have a1 : ds.length ≤ (cs.take k).length := by rw [hds]; exact List.length_filter_le _ _
        rw [List.length_take] at a1; omega
      have Hds := Lib.hid hds
      have Hdl2 := Lib.hid hdl2
      have z0 := Lib.hid (heap_alloc_top wr (.cells #[.int .i64 X, .int .i64 Y] 55))
      have Hba := Lib.hid (below_alloc wr (.cells #[.int .i64 X, .int .i64 Y] 55))
      have hsa : (wr.alloc (.cells #[.int .i64 X, .int .i64 Y] 55)).heap.size = wr.heap.size + 1 := size_alloc _ _
      clear hc he ht hoc hbw hds hxc hx1 hx2 hdl2
      go_wp2_with fail
      generalize wr.alloc (.cells #[.int .i64 X, .int .i64 Y] 55) = wa at *
      refine (containsC_any _ cs (X + 1, Y) _ (Hl.out.below Hba.out)).mono ?_
      rintro e w3 ⟨rfl, hb3⟩
      have Z3 := Lib.hid (blk_later z0.out hb3)
      have Hb3 := Lib.hid (Hba.out.trans (hb3.mono (by omega)))
      have hs3 := hb3.size
      clear hb3 z0
      obtain ⟨d0, d1, df, dz⟩ := blk2 Z3.out
      by_cases m1 : (X + 1, Y) ∈ cs
      · have hno : esP cs (X, Y) = false := by simp [esP, m1]
        have Hno := Lib.hid hno
        have m1' : decide ((X + 1, Y) ∈ cs) = true := by simp [m1]
        rw [m1']
        clear m1 m1' hno
        go_wp2_with fail
        go_roundg (cs.length - (k + 1))
        case measure => omega
        case rel =>
          refine ⟨k + 1, by omega, rfl, by go_num, Hbw.out.trans (Hb3.out.mono (by omega)), ?_⟩
          rw [Ht.out, List.filter_append, ← Hds.out]
          simp only [List.filter_cons, List.filter_nil, Hno.out, Bool.false_eq_true, if_false, List.append_nil]
          exact (Hoc.out.below Hb3.out).mono (Nat.le_refl _) (by omega)
      · have m1' : decide ((X + 1, Y) ∈ cs) = false := by simp [m1]
        rw [m1']
        have M1 := Lib.hid m1
        clear m1 m1'
        go_wp2_with fail
        refine (containsC_any _ cs (X, Y + 1) _ (Hl.out.below Hb3.out)).mono ?_
        rintro e w4 ⟨rfl, hb4⟩
        have Z4 := Lib.hid (blk_later Z3.out hb4)
        have Hb4 := Lib.hid (Hb3.out.trans (hb4.mono (by omega)))
        have hs4 := hb4.size
        clear hb4 Z3 d0 d1 df dz
        obtain ⟨d0, d1, df, dz⟩ := blk2 Z4.out
        by_cases m2 : (X, Y + 1) ∈ cs
        · have hno : esP cs (X, Y) = false := by simp [esP, m2]
          have Hno := Lib.hid hno
          have m2' : decide ((X, Y + 1) ∈ cs) = true := by simp [m2]
          rw [m2']
          clear m2 m2' hno
          go_wp2_with fail
          go_roundg (cs.length - (k + 1))
          case measure => omega
          case rel =>
            refine ⟨k + 1, by omega, rfl, by go_num, Hbw.out.trans (Hb4.out.mono (by omega)), ?_⟩
            rw [Ht.out, List.filter_append, ← Hds.out]
            simp only [List.filter_cons, List.filter_nil, Hno.out, Bool.false_eq_true, if_false, List.append_nil]
            exact (Hoc.out.below Hb4.out).mono (Nat.le_refl _) (by omega)
        · have hyes : esP cs (X, Y) = true := by simp [esP, m2, M1.out]
          have Hyes := Lib.hid hyes
          have m2' : decide ((X, Y + 1) ∈ cs) = false := by simp [m2]
          rw [m2']
          clear m2 m2' hyes
          go_wp2_with (at_builtin; go_must (refine wpList_append_C rfl (.tmp 36) (.tmp 38) rfl w1.heap.size wr.heap.size _ ds rfl ((Hoc.out.below Hb4.out).below (below_alloc w4 _)) (by rw [size_alloc]; omega) w4.heap.size 1 (X, Y) rfl (cell_of_blk (heap_alloc_top w4 _) rfl) (cell_of_blk (heap_alloc_top w4 _) rfl) Hdl2.out ?_; intro v' w' ho' hg'))
          go_roundg (cs.length - (k + 1))
          case measure => omega
          case rel =>
            refine ⟨k + 1, by omega, rfl, by go_num, (Hbw.out.trans (Hb4.out.mono (by omega))).trans (((below_alloc w4 _).mono (by omega)).trans (grownBy_below hg' Hoc.out.blocks (Nat.le_refl _) (by rw [size_alloc]; omega))), ?_⟩
            rw [Ht.out, List.filter_append, ← Hds.out]
            simp only [List.filter_cons, List.filter_nil, Hyes.out, if_true]
            exact ho'
    · obtain rfl : k = cs.length := by omega
      have i1 : ¬ (cs.length : Int) < (cs.length : Int) := by omega
      rw [List.take_of_length_le (Nat.le_refl _)] at hoc
      have Hoc2 := Lib.hid hoc.out
      have Hbw2 := Lib.hid hbw.out
      clear hoc hbw
      go_wp2_with fail
      go_ret
      exact ⟨_, rfl, by rw [He.out]; exact Hoc2.out.mono Hb1.out.size (Nat.le_refl _), Hb1.out.trans (Hbw2.out.mono Hb1.out.size)⟩

end Go.Proofs.Ytejoapielndnnaa
