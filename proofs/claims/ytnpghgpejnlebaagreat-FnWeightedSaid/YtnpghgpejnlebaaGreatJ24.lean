/-
  nonzero: slices.DeleteFunc at parts.
  WeightedProduct.
  The draws: a new cursor.
  The draws: a permutation.
  The draws: different numbers, in any order or ascending.
  The draw of a shape in a box.
  spec.DrawWeights: two shapes in a box, different numbers.
-/
import Derived.Test.YtnpghgpejnlebaaGreatJ20
import Derived.Lib.SliceRun
import Derived.Test.YtnpghgpejnlebaaGreatJ23
import Derived.Test.YtnpghgpejnlebaaGreatJ12
import Derived.Test.YtnpghgpejnlebaaGreatJ19
import Derived.Deep.RegionLaw
import Derived.Test.YtnpghgpejnlebaaGreatJ9
import Derived.Test.YtnpghgpejnlebaaGreatJ8
import Derived.Test.YtnpghgpejnlebaaGreatJ3
import Derived.Test.YtnpghgpejnlebaaGreatJ11
import Derived.Test.YtnpghgpejnlebaaGreatJ2
import Derived.Deep.RegionHeld3
import Derived.OwnWalk
namespace Go.Proofs.YtnpghgpejnlebaaGreat
set_option linter.all false
set_option maxRecDepth 100000
open Go.RowKit

theorem run_clear2 {P : Program} (w : World) (t e : TypeId) (z z0 z1 : Value) (ht : P.underlying t = some (.slice e)) (hv : ∀ w, (zeroValue e).run P w = .ok z w) (hz : z.cells = #[z0, z1]) (h0 : z0.oneCell' = true) (h1 : z1.oneCell' = true) (b o n c : Nat) (hn : 0 < n)
    (hc : ∀ j, j < n * 2 → (w.cell? ⟨b, o + j, none⟩).isSome = true) (hf : ∀ j, j < n * 2 → w.frozen? ⟨b, o + j, none⟩ = false) :
    ∃ vs, ∀ ty, (Builtin.clear_ #[t] ty #[.slice (some ⟨b, o, none⟩) n c]).run P w = .ok (.tuple #[]) (w.setCells b o vs) := by
  have hlen : (Builtin.zeroCells z.cells n).toList.length = n * 2 := by rw [hz]; simp [Builtin.zeroCells]
  have hone : ∀ v ∈ (Builtin.zeroCells z.cells n).toList, v.oneCell' = true := fun v hv' => by
    rw [hz] at hv'
    simp only [Builtin.zeroCells, Array.toList_map, List.mem_map] at hv'
    obtain ⟨i, _, rfl⟩ := hv'
    have : i % 2 = 0 ∨ i % 2 = 1 := by omega
    rcases this with e | e
    · show (#[z0, z1][i % 2]!).oneCell' = true
      rw [e]; exact h0
    · show (#[z0, z1][i % 2]!).oneCell' = true
      rw [e]; exact h1
  have hst := run_storeCells_cells (P := P) b o (Builtin.zeroCells z.cells n).toList 0 w (by rw [hlen]; simpa using hc) (by rw [hlen]; simpa using hf) hone
  simp only [Nat.add_zero] at hst
  obtain ⟨m, rfl⟩ : ∃ m, n = m + 1 := ⟨n - 1, by omega⟩
  exact ⟨(Builtin.zeroCells z.cells (m + 1)).toList, fun ty => by simp [Builtin.clear_, run_underlying ht, hv, hst]⟩

theorem FrP.setAt {lo g : Nat} {w w' : World} (hf : FrP lo w w') (hg : lo ≤ g) (hk : IsPt w' g) (o : Nat) (u : Value) : FrP lo w (w'.setCell ⟨g, o, none⟩ u) := by
  refine ⟨hf.os, hf.tape, hf.output, by rw [size_setCell]; exact hf.size, fun k hks ho => ?_⟩
  have e := hf.block k hks ho
  have hne : k ≠ g := fun e2 => by
    rcases ho with ho | ho
    · omega
    · subst e2
      unfold IsPt at hk ho
      rw [e] at hk
      exact ho hk
  exact (Below.heap_setCell w' ⟨g, o, none⟩ u k hne).trans e
theorem IsPt.set {w : World} {g : Nat} (h : IsPt w g) (b o : Nat) (u : Value) : IsPt (w.setCell ⟨b, o, none⟩ u) g := by
  by_cases e : g = b
  · subst e
    obtain ⟨c, fz, h⟩ := h
    exact ⟨_, fz, heap_setCell_at h o u⟩
  · obtain ⟨c, fz, h⟩ := h
    exact ⟨c, fz, (Below.heap_setCell w ⟨b, o, none⟩ u g e).trans h⟩
theorem FrP.setCells {lo g : Nat} {w : World} (hg : lo ≤ g) : ∀ (vs : List Value) (o : Nat) (w' : World), FrP lo w w' → IsPt w' g → FrP lo w (w'.setCells g o vs)
  | [], _, _, hf, _ => hf
  | v :: vs, o, w', hf, hk => FrP.setCells hg vs (o + 1) _ (hf.setAt hg hk o v) (hk.set g o v)
theorem FrP.ownI {lo lo2 hi : Nat} {w w' : World} {v : Value} {xs : List Int} (hf : FrP lo w w') (h : OwnI 3 w lo2 hi v xs) : OwnI 3 w' lo2 hi v xs :=
  ⟨ownsRow_of_block h.1 fun b hb => hf.block b (Own.block h hb).2.2 (.inr fun hp => ne_of_kinds (OwnI.kind h b hb) hp (by decide)), h.2⟩
theorem take_snocP {l : List Cls} {k : Nat} (h : k < l.length) : l.take (k + 1) = l.take k ++ [l.getD k clD] := by
  rw [List.take_succ, List.getElem?_eq_getElem h]
  simp [List.getD_eq_getElem?_getD, h]

def nzB (x : Cls) : Bool := !decide (x.2 = 0)
theorem nzf_snoc {L : List Cls} {d : Cls} : (L ++ [d]).filter nzB = if d.2 = 0 then L.filter nzB else L.filter nzB ++ [d] := by
  rw [List.filter_append]
  by_cases e : d.2 = 0
  · rw [if_pos e, List.filter_cons, if_neg (by simp [nzB, e])]
    simp
  · rw [if_neg e, List.filter_cons, if_pos (by simp [nzB, e])]
    simp
theorem nzf_all {L : List Cls} (h : ∀ d ∈ L, d.2 ≠ 0) : L.filter nzB = L := List.filter_eq_self.2 fun d hd => by simp [nzB, h d hd]

theorem nz_any (p : Option Addr) (l k : Nat) (c : Int) (w : World) : Calls Tryz.prog 48 #[.agg #[.slice p l k, .int .i64 c]] w fun e w' => e = .returned (.bool (decide (c = 0))) ∧ Below w.heap.size w w' := by
  have z0 := heap_alloc_top w (.cells #[.slice p l k, .int .i64 c] 63)
  have x1 := cell_of_blk z0 (j := 1) rfl
  have Hb := Lib.hid (below_alloc w (.cells #[.slice p l k, .int .i64 c] 63))
  clear z0
  go_enter Tryz.func48, Tryz.ntmps48
  go_wp2_with fail
  go_ret
  exact ⟨rfl, Hb.out⟩

set_option maxHeartbeats 2000000 in
theorem indexZp_any (v : Value) (L : List Cls) (w : World) (h : RdCl w v L) :
    Calls Tryz.prog 64 #[v, .func (.func 48) #[] #[]] w fun e w' =>
      ((e = .returned (.int .i64 (-1)) ∧ ∀ d ∈ L, d.2 ≠ 0) ∨ ∃ k : Nat, e = .returned (.int .i64 (k : Int)) ∧ k < L.length ∧ (L.getD k clD).2 = 0 ∧ ∀ d ∈ L.take k, d.2 ≠ 0) ∧ Below w.heap.size w w' := by
  obtain ⟨f, h1, h2⟩ := h
  have H2 := Lib.hid h2
  obtain ⟨p, cap, rfl, ⟨hx1, hx2⟩, hxc⟩ := h1
  unfold maxLen at hx2
  have Hxc := Lib.hid hxc
  obtain ⟨n, hn⟩ : ∃ n, n = L.length := ⟨_, rfl⟩
  have Hn := Lib.hid hn
  rw [← hn] at hx1 Hxc H2 ⊢
  clear hxc h2 hn
  go_enter Tryz.func64, Tryz.ntmps64
  go_wp2_with fail
  go_loopg [5, 8] n (fun g s5 s8 wr => ∃ k : Nat, k ≤ n ∧ g = n - k ∧ s8 = .int .i64 (k : Int) ∧ Hid (Below w.heap.size w wr) ∧ Hid (∀ d ∈ L.take k, d.2 ≠ 0))
  case atStart => exact ⟨0, Nat.zero_le _, rfl, rfl, Below.refl _ _, by simp [Hid]⟩
  case round =>
    obtain ⟨k, hk, rfl, rfl, hb, hno⟩ := hrel
    obtain ⟨wo, rfl⟩ : ∃ x : World, x = wr := ⟨_, rfl⟩
    have Hb := Lib.hid hb.out
    clear hb
    by_cases hlt : k < n
    · obtain ⟨g, rfl, hc⟩ := Hxc.out (by omega)
      have c0 : wo.cell? ⟨g, k * 2, none⟩ = some (f k) := cell_below Hb.out (hc k hlt 0 (by omega))
      have c1 : wo.cell? ⟨g, k * 2 + 1, none⟩ = some (.int .i64 (L.getD k clD).2) := cell_below Hb.out (hc k hlt 1 (by omega))
      obtain ⟨p1, k1, e1, _⟩ := H2.out k hlt
      have T1 := Lib.hid (take_snocP (l := L) (k := k) (by rw [← Hn.out]; exact hlt))
      rw [e1] at c0
      obtain ⟨c, hc'⟩ : ∃ c, c = (L.getD k clD).2 := ⟨_, rfl⟩
      rw [← hc'] at c1
      have Hc' := Lib.hid hc'
      obtain ⟨l1, hl1⟩ : ∃ l, l = (L.getD k clD).1.length := ⟨_, rfl⟩
      rw [← hl1] at c0
      have Q1 := Lib.hid (nz_any p1 l1 k1 c wo)
      have hkz : (k : Int) < (n : Int) := by omega
      clear hc e1 hc' hl1
      go_wp2_with fail
      refine Q1.out.mono ?_
      rintro e w1 ⟨rfl, hb1⟩
      have Hb1 := Lib.hid (Hb.out.trans (hb1.mono Hb.out.size))
      clear hb1
      by_cases e : c = 0
      · have hd : decide (c = 0) = true := decide_eq_true e
        rw [hd]
        have He := Lib.hid e
        clear hd e
        go_wp2_with fail
        go_ret
        exact ⟨.inr ⟨k, rfl, hlt, by rw [← Hc'.out]; exact He.out, hno.out⟩, Hb1.out⟩
      · have hd : decide (c = 0) = false := decide_eq_false e
        rw [hd]
        have He := Lib.hid e
        clear hd e
        go_wp2_with fail
        go_roundg (n - (k + 1))
        case measure => omega
        case rel =>
          refine ⟨k + 1, by omega, rfl, by go_num, Hb1.out, ?_⟩
          show ∀ d ∈ L.take (k + 1), d.2 ≠ 0
          rw [T1.out]
          intro d hd
          rcases List.mem_append.1 hd with h | h
          · exact hno.out d h
          · simp only [List.mem_singleton] at h
            rw [h, ← Hc'.out]
            exact He.out
    · obtain rfl : k = n := by omega
      have hno' := hno.out
      rw [Hn.out, List.take_of_length_le (Nat.le_refl _)] at hno'
      have Hno := Lib.hid hno'
      clear hno hno'
      go_wp2_with fail
      go_ret
      exact ⟨.inl ⟨rfl, Hno.out⟩, Hb.out⟩

theorem zeroPart (w : World) : (zeroValue 63).run Tryz.prog w = .ok (.agg #[.slice none 0 0, .int .i64 0]) w := by kernel_rfl

set_option maxHeartbeats 8000000 in
theorem nonzero_any (v : Value) (L : List Cls) (lo lo2 hi : Nat) (w : World) (h : OwnP2 w lo lo2 hi v L) (hl : L.length ≤ 1000) (hlo : lo ≤ w.heap.size) :
    Calls Tryz.prog 47 #[v, .func (.func 48) #[] #[]] w fun e w' => ∃ u, e = .returned u ∧ RdCl w' u (L.filter nzB) ∧ FrP lo w w' := by
  have HI := Lib.hid (indexZp_any v L w h.rd)
  have Hrd := Lib.hid h.rd
  obtain ⟨G, g1, g2⟩ := h
  obtain ⟨p, cap, rfl, hnc, hcm, hp⟩ := g1.shape
  obtain ⟨n, hn⟩ : ∃ n, n = L.length := ⟨_, rfl⟩
  have Hn := Lib.hid hn
  rw [← hn] at HI Hrd g1 hnc hp hl ⊢
  have G1 := Lib.hid g1
  have G2 := Lib.hid (show ∀ i, i < n → OwnI 3 w lo2 hi (G i) (L.getD i clD).1 from fun i hi' => g2 i (by omega))
  have Hp := Lib.hid hp
  unfold maxLen at hcm
  clear g1 g2 hn hp
  go_enter Tryz.func47, Tryz.ntmps47
  go_wp2_with fail
  refine HI.out.mono ?_
  rintro e w1 ⟨hr, hb⟩
  have Hb := Lib.hid hb
  clear hb
  rcases hr with ⟨rfl, hall⟩ | ⟨k, rfl, hk, hin, hall⟩
  · have Hall := Lib.hid hall
    clear hall
    go_wp2_with fail
    go_ret
    exact ⟨_, rfl, by rw [nzf_all Hall.out]; exact Hrd.out.below Hb.out, FrP.of_below Hb.out⟩
  · obtain ⟨g, rfl, hg1, hg2, hg3⟩ := Hp.out (by omega)
    have hk1 : ((k : Int) == -1) = false := beq_eq_false_iff_ne.2 (by omega)
    have hstart : Hid ((L.take (k + 1)).filter nzB = L.take k) := by
      show _ = _
      rw [take_snocP (by rw [← Hn.out]; exact hk), nzf_snoc, if_pos hin, nzf_all hall]
    clear hin hall
    go_wp2_with fail
    go_loopg [5, 6, 7] (n - (k + 1)) (fun t s5 s6 s7 wr => ∃ (j m : Nat) (F' : Nat → Nat → Value) (g' : Nat → Value), k + 1 ≤ j ∧ j ≤ n ∧ t = n - j ∧ s6 = .int .i64 (j : Int) ∧ s5 = .int .i64 (m : Int) ∧ m < j ∧ Hid (m = ((L.take j).filter nzB).length) ∧ Hid (FrP lo w wr) ∧
      Hid (OwnS wr lo hi 63 2 (.slice (some ⟨g, 0, none⟩) n cap) n F') ∧ Hid (∀ i, i < m → (∀ jj, jj < 2 → F' i jj = clF ((L.take j).filter nzB) g' i jj) ∧ OwnI 3 w lo2 hi (g' i) (((L.take j).filter nzB).getD i clD).1) ∧ Hid (∀ i, j ≤ i → i < n → ∀ jj, jj < 2 → F' i jj = clF L G i jj))
    case atStart =>
      refine ⟨k + 1, k, clF L G, G, Nat.le_refl _, by omega, rfl, by go_num, rfl, by omega, ?_, FrP.of_below Hb.out, G1.out.below Hb.out, ?_, fun _ _ _ _ _ => rfl⟩
      · show k = _
        rw [hstart.out, List.length_take, Nat.min_eq_left (by rw [← Hn.out]; omega)]
      · rw [hstart.out]
        intro i hi
        have e2 : (L.take k).getD i clD = L.getD i clD := by simp [List.getD_eq_getElem?_getD, List.getElem?_take, hi]
        refine ⟨fun jj hj => ?_, by rw [e2]; exact G2.out i (by omega)⟩
        unfold clF
        rw [e2]
    case round =>
      obtain ⟨j, m, F', g', hkj, hjn, rfl, rfl, rfl, hmj, Hm, Hfr, H1, HK, HF⟩ := hrel
      obtain ⟨wo, rfl⟩ : ∃ x : World, x = wr := ⟨_, rfl⟩
      by_cases hlt : j < n
      · have c0 : wo.cell? ⟨g, j * 2, none⟩ = some (G j) := (H1.out.cell hlt (show 0 < 2 by omega)).trans (congrArg some (HF.out j (Nat.le_refl _) hlt 0 (by omega)))
        have c1 : wo.cell? ⟨g, j * 2 + 1, none⟩ = some (.int .i64 (L.getD j clD).2) := (H1.out.cell hlt (show 1 < 2 by omega)).trans (congrArg some (HF.out j (Nat.le_refl _) hlt 1 (by omega)))
        obtain ⟨p1, k1, e1, _, _⟩ := (G2.out j hlt).shape
        have He1 := Lib.hid e1
        rw [e1] at c0
        obtain ⟨l1, hl1⟩ : ∃ l, l = (L.getD j clD).1.length := ⟨_, rfl⟩
        rw [← hl1] at c0 He1
        obtain ⟨c, hc⟩ : ∃ c, c = (L.getD j clD).2 := ⟨_, rfl⟩
        rw [← hc] at c1
        have Hc := Lib.hid hc
        have T1 := Lib.hid (take_snocP (l := L) (k := j) (by rw [← Hn.out]; exact hlt))
        obtain ⟨W1, hW1⟩ : ∃ W1, W1 = wo.alloc (.cells #[.slice p1 l1 k1, .int .i64 c] 63) := ⟨_, rfl⟩
        have zq : W1.heap[wo.heap.size]? = some (.cells #[.slice p1 l1 k1, .int .i64 c] 63 (0, 0)) := by rw [hW1]; exact heap_alloc_top _ _
        have hbq : Below wo.heap.size wo W1 := by rw [hW1]; exact below_alloc _ _
        have HW1 := Lib.hid hW1
        have Q1 := Lib.hid (nz_any p1 l1 k1 c W1)
        have q0 := cell_of_blk zq (j := 0) rfl
        have q1 := cell_of_blk zq (j := 1) rfl
        have Hbq := Lib.hid hbq
        have Hzq := Lib.hid zq
        have hjz : (j : Int) < (n : Int) := by omega
        have hmz : (m : Int) < (n : Int) := by omega
        have hmn : m < n := by omega
        clear hW1 hbq zq e1 hl1 hc
        go_upto_region 8 with fail
        rw [← HW1.out]
        clear c0 c1
        go_wp2_with fail
        refine Q1.out.mono ?_
        rintro e w2 ⟨rfl, hb2⟩
        have zq2 := blk_later Hzq.out hb2
        have Hb2 := Lib.hid (Hbq.out.trans (hb2.mono Hbq.out.size))
        have q20 := cell_of_blk zq2 (j := 0) rfl
        have q21 := cell_of_blk zq2 (j := 1) rfl
        clear hb2 q0 q1 zq2
        by_cases e : c = 0
        · have hd : decide (c = 0) = true := decide_eq_true e
          rw [hd]
          have Hst := Lib.hid (show (L.take (j + 1)).filter nzB = (L.take j).filter nzB by rw [T1.out, nzf_snoc, if_pos (by rw [← Hc.out]; exact e)])
          clear hd e
          go_wp2_with fail
          go_roundg (n - (j + 1))
          case measure => omega
          case rel =>
            refine ⟨j + 1, m, F', g', by omega, by omega, rfl, by go_num, rfl, by omega, ?_, Hfr.out.trans (FrP.of_below Hb2.out), H1.out.below Hb2.out, ?_, fun i h1 h2 => HF.out i (by omega) h2⟩
            · show m = _
              rw [Hst.out, ← Hm.out]
            · rw [Hst.out]
              exact HK.out
        · have hd : decide (c = 0) = false := decide_eq_false e
          rw [hd]
          have Hst := Lib.hid (show (L.take (j + 1)).filter nzB = (L.take j).filter nzB ++ [L.getD j clD] by rw [T1.out, nzf_snoc, if_neg (by rw [← Hc.out]; exact e)])
          have h2 := H1.out.below Hb2.out
          have Ho2 := Lib.hid h2
          have d0 : w2.cell? ⟨g, m * 2, none⟩ = some (F' m 0) := h2.cell hmn (show 0 < 2 by omega)
          have d1 : w2.cell? ⟨g, m * 2 + 1, none⟩ = some (F' m 1) := h2.cell hmn (show 1 < 2 by omega)
          have f0 := h2.frozen (m * 2)
          have f1 := h2.frozen (m * 2 + 1)
          obtain ⟨y0, hy0⟩ : ∃ y, y = F' m 0 := ⟨_, rfl⟩
          obtain ⟨y1, hy1⟩ : ∃ y, y = F' m 1 := ⟨_, rfl⟩
          rw [← hy0] at d0
          rw [← hy1] at d1
          clear hd e h2 hy0 hy1
          go_wp2_with fail
          go_roundg (n - (j + 1))
          case measure => omega
          case rel =>
            have o1 := (Ho2.out.set hmn (show 0 < 2 by omega) (.slice p1 l1 k1)).set hmn (show 1 < 2 by omega) (.int .i64 c)
            have hpt : IsPt w2 g := by
              obtain ⟨c, fz, e⟩ := Ho2.out.kind g rfl
              exact ⟨c, fz, e⟩
            have hfr := ((Hfr.out.trans (FrP.of_below Hb2.out)).setAt hg1 hpt (m * 2) (.slice p1 l1 k1)).setAt hg1 (hpt.set g (m * 2) (.slice p1 l1 k1)) (m * 2 + 1) (.int .i64 c)
            have hKl : ((L.take j).filter nzB).length = m := Hm.out.symm
            refine ⟨j + 1, m + 1, _, fun i => if i = m then G j else g' i, by omega, by omega, rfl, by go_num, by go_num, by omega, ?_, hfr, o1, ?_, fun i h1 h2 jj hj => ?_⟩
            · show m + 1 = _
              rw [Hst.out, List.length_append, ← Hm.out]
              rfl
            · rw [Hst.out]
              intro i hi
              by_cases e : i = m
              · have e3 : ((L.take j).filter nzB ++ [L.getD j clD]).getD i clD = L.getD j clD := by
                  rw [List.getD_eq_getElem?_getD, List.getElem?_append_right (by omega), hKl, e, Nat.sub_self]
                  rfl
                refine ⟨fun jj hj => ?_, by rw [e3]; dsimp only; rw [if_pos e]; exact G2.out j hlt⟩
                unfold clF
                rw [e3]
                match jj, hj with
                | 0, _ => simp [e, He1.out]
                | 1, _ => simp [e, Hc.out]
              · have e3 : ((L.take j).filter nzB ++ [L.getD j clD]).getD i clD = ((L.take j).filter nzB).getD i clD := by
                  rw [List.getD_eq_getElem?_getD, List.getElem?_append_left (by omega), ← List.getD_eq_getElem?_getD]
                have hk2 := HK.out i (by omega)
                refine ⟨fun jj hj => ?_, by rw [e3]; dsimp only; rw [if_neg e]; exact hk2.2⟩
                rw [if_neg (fun c => e c.1), if_neg (fun c => e c.1), hk2.1 jj hj]
                unfold clF
                dsimp only
                rw [e3, if_neg e]
            · rw [if_neg (by omega), if_neg (by omega)]
              exact HF.out i (by omega) h2 jj hj
      · obtain rfl : j = n := by omega
        have hjz : ¬ ((j : Int) < (j : Int)) := by omega
        have hmn : m ≤ j := by omega
        have cm : ∀ t, t < (j - m) * 2 → (wo.cell? ⟨g, m * 2 + t, none⟩).isSome = true := fun t ht => by
          have := H1.out.cell (i := (m * 2 + t) / 2) (j := (m * 2 + t) % 2) (by omega) (by omega)
          rw [show (m * 2 + t) / 2 * 2 + (m * 2 + t) % 2 = m * 2 + t by omega] at this
          rw [this]; rfl
        obtain ⟨vs, hcl⟩ := run_clear2 (P := Tryz.prog) wo _ _ _ _ _ Tryz.underlying27 zeroPart rfl rfl rfl g (m * 2) (j - m) (cap - m) (by omega) cm (fun t ht => H1.out.frozen _)
        have hmz : (m : Int) ≤ (j : Int) := by omega
        have hmz2 : (m : Int) ≤ (cap : Int) := by omega
        have hmc : m ≤ cap := by omega
        have hpt : IsPt wo g := by
          obtain ⟨c, fz, e⟩ := H1.out.kind g rfl
          exact ⟨c, fz, e⟩
        have Hfr3 := Lib.hid (FrP.setCells hg1 vs (m * 2) wo Hfr.out hpt)
        have Hres := Lib.hid (show RdCl (wo.setCells g (m * 2) vs) (.slice (some ⟨g, 0, none⟩) m cap) (L.filter nzB) from by
          have hT : L.take j = L := List.take_of_length_le (by rw [← Hn.out]; exact Nat.le_refl _)
          have h1 := Hm.out
          have h2 := HK.out
          rw [hT] at h1 h2
          refine ⟨g', ⟨_, cap, by rw [h1], ⟨by omega, by unfold maxLen; omega⟩, fun _ => ⟨g, rfl, fun i hi jj hj => ?_⟩⟩, fun i hi => (FrP.ownI Hfr3.out (h2 i (by omega)).2).ints⟩
          rw [World.cell?_setCells_out g vs (m * 2) wo ⟨g, i * 2 + jj, none⟩ (fun _ _ => .inl (by show i * 2 + jj < m * 2; omega)), ← (h2 i (by omega)).1 jj hj]
          exact H1.out.cell (by omega) hj)
        clear cm hpt
        go_wp2_with fail
        go_ret
        exact ⟨_, rfl, Hres.out, Hfr3.out⟩

end Go.Proofs.YtnpghgpejnlebaaGreat

namespace Go.Proofs.YtnpghgpejnlebaaGreat
set_option linter.all false
set_option maxRecDepth 100000
open Go.RowKit Go.Shelf Go.Sort Go.Lib

theorem nonzeroF_any (v : Value) (L : List Cls) (lo lo2 hi : Nat) (w : World) (h : OwnP2 w lo lo2 hi v L) (hl : L.length ≤ 1000) (hlo : lo ≤ w.heap.size) :
    Calls Tryz.prog 22 #[v] w fun e w' => ∃ u, e = .returned u ∧ RdCl w' u (L.filter nzB) ∧ FrP lo w w' := by
  have H := Lib.hid (nonzero_any v L lo lo2 hi w h hl hlo)
  obtain ⟨p, cap, rfl, _, _⟩ := h.shape
  clear h hl hlo
  go_enter Tryz.func22, Tryz.ntmps22
  go_wp2_with fail
  refine H.out.mono ?_
  rintro e w1 ⟨u, rfl, hr, hf⟩
  have Hr := Lib.hid hr
  have Hf := Lib.hid hf
  obtain ⟨f, ⟨p1, k1, rfl, _⟩, _⟩ := hr
  clear hf
  go_wp2_with fail
  go_ret
  exact ⟨_, rfl, Hr.out, Hf.out⟩

set_option maxHeartbeats 4000000 in
theorem WeightedProduct_any (va vb vy : Value) (a b ys : List Int) (n : Nat) (w : World) (h1 : 1 ≤ n) (h4 : n ≤ 4) (ha : Ints w va a) (hb : Ints w vb b) (hy : Ints w vy ys) (sa : strOk a = true) (sb : strOk b = true) (hal : a.length = n) (hbl : b.length = n) (hs : sumI a = sumI b)
    (hyl : ys.length = n) (hy9 : ∀ y ∈ ys, -9 ≤ y ∧ y ≤ 9) (hq : ∀ q ∈ puzL n a b, pzB n q = true) (hm : (puzL n a b).length ≤ 1000) :
    Calls Tryz.prog 6 #[va, vb, vy] w fun e w' => ∃ u, e = .returned (.tuple #[u, .bool true]) ∧ RdCl w' u ((finL n ys (puzL n a b) []).filter nzB) ∧ Below w.heap.size w w' := by
  have hy9' : ∀ i, -9 ≤ ys.getD i 0 ∧ ys.getD i 0 ≤ 9 := fun i => by
    by_cases e : i < ys.length
    · exact hy9 _ (getD_mem e)
    · rw [List.getD_eq_getElem?_getD, List.getElem?_eq_none (by omega)]
      exact ⟨by decide, by decide⟩
  have hshift : shiftB (n : Int) ys = true := by
    unfold shiftB
    rw [Bool.and_eq_true, decide_eq_true_eq, decide_eq_true_eq]
    exact ⟨by rw [hyl], hy9⟩
  obtain ⟨pa, ka, rfl, ⟨m1, m2⟩, _⟩ := id ha
  obtain ⟨pb, kb, rfl, ⟨m3, m4⟩, _⟩ := id hb
  obtain ⟨py, ky, rfl, ⟨m5, m6⟩, _⟩ := id hy
  obtain ⟨W, hW⟩ : ∃ W, W = w.alloc (.cells #[.slice py ys.length ky] 24) := ⟨_, rfl⟩
  have z0 : W.heap[w.heap.size]? = some (.cells #[.slice py ys.length ky] 24 (0, 0)) := by rw [hW]; exact heap_alloc_top _ _
  have hb0 : Below w.heap.size w W := by rw [hW]; exact below_alloc w _
  have x0 := cell_of_blk z0 (j := 0) rfl
  have Hb0 := Lib.hid hb0
  have HW := Lib.hid hW
  have Hx0 := Lib.hid x0
  have HAl := Lib.hid (alike_any _ _ a b W (ha.below hb0) (hb.below hb0) sa sb (by rw [hal, hbl]) hs)
  have HSh := Lib.hid (fun u (hu : Qt W u) => shiftsOk_any (n : Int) _ ys u ((hy.below hb0).qt hu))
  have HA := Lib.hid (ha.below hb0)
  have HB := Lib.hid (hb.below hb0)
  have HY := Lib.hid (hy.below hb0)
  have Hy9 := Lib.hid hy9'
  have Hshift := Lib.hid hshift
  have Hq := Lib.hid hq
  have Hm := Lib.hid hm
  have Hal := Lib.hid hal
  have Hbl := Lib.hid hbl
  have Hyl := Lib.hid hyl
  rw [hal] at HAl HA m1 ⊢
  have hn5 : ¬ (5 : Int) < (n : Int) := by omega
  unfold maxLen at m2 m4 m6
  clear hW z0 hb0 x0 ha hb hy sa sb hs hy9 hy9' hshift hq hm hal hbl hyl
  go_enter Tryz.func6, Tryz.ntmps6
  go_wp2_with fail
  rw [← HW.out]
  refine HAl.out.mono ?_
  rintro e wB ⟨rfl, hqB⟩
  have hx := hqB.cell Hx0.out
  have Hxb := Lib.hid hx
  have HqB := Lib.hid hqB
  clear hqB
  go_wp2_with fail
  refine (HSh.out _ HqB.out).mono ?_
  rintro e w2 ⟨rfl, rfl⟩
  rw [Hshift.out]
  clear hx
  obtain ⟨O, hO⟩ : ∃ O : Obj, O = .cells #[.slice (some ⟨wB.heap.size, 0, none⟩) 0 0] 27 := ⟨_, rfl⟩
  obtain ⟨W3, hW3⟩ : ∃ W3, W3 = (wB.alloc (.cells #[] 63)).alloc O := ⟨_, rfl⟩
  have hb3 : Below wB.heap.size wB W3 := by rw [hW3]; exact below_alloc2 _ _ _
  have hz3 : W3.heap[wB.heap.size + 1]? = some (.cells #[.slice (some ⟨wB.heap.size, 0, none⟩) 0 0] 27 (0, 0)) := by rw [hW3, hO]; exact heap_alloc_at _ _ (by rw [size_alloc])
  have ho3 : OwnPl W3 wB.heap.size W3.heap.size (.slice (some ⟨wB.heap.size, 0, none⟩) 0 0) [] := by
    rw [hW3]
    exact ((OwnPl.made0 wB).below (below_alloc _ _)).mono (Nat.le_refl _) (by rw [size_alloc, size_alloc]; omega)
  have HT := Lib.hid (tilings_any wB wB.heap.size (wB.heap.size + 1) w.heap.size n (.slice pa n ka) (.slice pb b.length kb) (.slice py ys.length ky) _ a b ys W3 h1 h4 hb3 (Nat.le_refl _) hb3.size (by omega) hz3 ho3 Hxb.out (HY.out.qt HqB.out) Hyl.out Hy9.out (HA.out.qt HqB.out) Hal.out (HB.out.qt HqB.out) Hbl.out Hq.out Hm.out)
  have HO := Lib.hid hO
  have HW3 := Lib.hid (hW3.trans (congrArg (fun o => (wB.alloc (.cells #[] 63)).alloc o) hO))
  clear hb3 hz3 ho3 hO hW3
  go_wp2_with fail
  rw [← HW3.out]
  refine HT.out.mono ?_
  rintro e w4 ⟨rfl, lo2, hE⟩
  obtain ⟨u, hu1, hu2⟩ := hE.out
  have hlen := hE.bd.1
  have HN := Lib.hid (nonzeroF_any u _ _ _ _ w4 hu2 (by have := Hm.out; omega) hE.lo_le)
  have hub := cell_of_blk hu1 (j := 0) rfl
  have HBs := Lib.hid hE.base
  clear hu1 hu2 hlen hE
  go_wp2_with fail
  refine HN.out.mono ?_
  rintro e w5 ⟨u5, rfl, hr5, hf5⟩
  have Hr5 := Lib.hid hr5
  have Hb5 := Lib.hid (show Below w.heap.size w w5 from by
    have q1 := HqB.out.below w.heap.size
    have hs := HqB.out.size
    have hs0 := Hb0.out.size
    have q2 : Below wB.heap.size w4 w5 := ⟨hf5.os, hf5.tape, hf5.output, hf5.size, fun k hk => hf5.block k (Nat.lt_of_lt_of_le hk HBs.out.size) (.inl hk)⟩
    exact (Hb0.out.trans q1).trans ((HBs.out.trans q2).mono (by omega)))
  obtain ⟨f5, ⟨p5, k5, rfl, _⟩, _⟩ := hr5
  clear hf5 hub
  go_wp2_with fail
  go_ret2
  exact ⟨_, rfl, Hr5.out, Hb5.out⟩

end Go.Proofs.YtnpghgpejnlebaaGreat

namespace Go.Proofs.YtnpghgpejnlebaaGreat
set_option linter.all false
open Go.RowKit

theorem cur_new {w : World} {p : Option Addr} {n cap : Nat} (x : Int) (h : Byts w (.slice p n cap) n) : Cur (w.alloc (.cells #[.slice p n cap, .int .i64 0, .int .i64 x] 65)) w.heap.size := by
  have h' := h
  obtain ⟨f, p', cap', e, _, hx⟩ := h'
  injection e with e1 _ e3
  subst e1 e3
  refine ⟨p, n, cap, 0, x, heap_alloc_top _ _, Nat.zero_le _, h.below (below_alloc _ _), fun h0 a ha => ?_⟩
  obtain ⟨b, off, e, hc⟩ := hx h0
  rw [e] at ha
  injection ha with ha
  subst ha
  have := World.block_lt_of_cell? _ _ (hc 0 h0)
  dsimp only at this ⊢
  omega

set_option maxRecDepth 100000 in
set_option maxHeartbeats 2000000 in
theorem l1New_any (v : Value) (n : Nat) (w : World) (h : Byts w v n) :
    Calls Tryz.prog 10 #[v] w fun e w' => e = .returned (.pointer (some ⟨w.heap.size, 0, none⟩)) ∧ Cur w' w.heap.size ∧ Below w.heap.size w w' := by
  have Hh := Lib.hid h
  obtain ⟨f, p, cap, rfl, ⟨hx1, hx2⟩, hxc⟩ := h
  unfold maxLen at hx2
  have Hxc := Lib.hid hxc
  clear hxc
  go_enter Tryz.func10, Tryz.ntmps10
  go_wp2_with fail
  go_loopg [3, 4] n (fun g s3 s4 wr => ∃ (k : Nat) (x : Int), k ≤ n ∧ g = n - k ∧ s3 = .int .i64 x ∧ s4 = .int .i64 k ∧ wr = w)
  case atStart => exact ⟨0, _, Nat.zero_le _, rfl, rfl, rfl, rfl⟩
  case round =>
    obtain ⟨k, x, hk, rfl, rfl, rfl, rfl⟩ := hrel
    by_cases hlt : k < n
    · by_cases h4 : k < 4000
      · obtain ⟨b, off, rfl, hc⟩ := Hxc.out (by omega)
        have c1 := hc k hlt
        have i1 : (k : Int) < (n : Int) := by omega
        have i2 : (k : Int) < 4000 := by omega
        clear hc
        go_wp2_with fail
        go_roundg (n - (k + 1))
        case measure => omega
        case rel => exact ⟨k + 1, _, by omega, rfl, rfl, by go_num, rfl⟩
      · have i1 : (k : Int) < (n : Int) := by omega
        have i2 : ¬ (k : Int) < 4000 := by omega
        go_wp2_with fail
        go_ret
        exact ⟨rfl, cur_new x Hh.out, below_alloc _ _⟩
    · have i1 : ¬ (k : Int) < (n : Int) := by omega
      go_wp2_with fail
      go_ret
      exact ⟨rfl, cur_new x Hh.out, below_alloc _ _⟩

end Go.Proofs.YtnpghgpejnlebaaGreat

namespace Go.Proofs.YtnpghgpejnlebaaGreat
set_option linter.all false
open Go.RowKit

/-- all codes of m places -/
def codes : Nat → List (List Nat)
  | 0 => [[]]
  | m + 1 => (List.range (m + 1)).flatMap fun x => (codes m).map (x :: ·)
theorem mem_codes : ∀ (m : Nat) (c : List Nat), c.length = m → (∀ j, j < m → c.getD j 0 < m - j) → c ∈ codes m
  | 0, c, hl, _ => by
    obtain rfl := List.eq_nil_of_length_eq_zero hl
    simp [codes]
  | m + 1, [], hl, _ => by simp at hl
  | m + 1, x :: c, hl, h => by
    have h0 := h 0 (by omega)
    have ih := mem_codes m c (by simpa using hl) fun j hj => by
      have := h (j + 1) (by omega)
      simp at this ⊢
      omega
    unfold codes
    refine List.mem_flatMap.2 ⟨x, by simpa using h0, List.mem_map.2 ⟨c, ih, rfl⟩⟩
theorem decL_ok {n : Nat} (h1 : 1 ≤ n) (h5 : n ≤ 5) (c : List Nat) (hl : c.length = n) (h : ∀ j, j < n → c.getD j 0 < n - j) : permOk (decL n c) = true ∧ (decL n c).length = n := by
  have hc := mem_codes n c hl h
  have key : ∀ c ∈ codes n, permOk (decL n c) = true ∧ (decL n c).length = n := by
    have : n = 1 ∨ n = 2 ∨ n = 3 ∨ n = 4 ∨ n = 5 := by omega
    rcases this with rfl | rfl | rfl | rfl | rfl <;> decide +kernel
  exact key c hc

end Go.Proofs.YtnpghgpejnlebaaGreat

namespace Go.Proofs.YtnpghgpejnlebaaGreat
set_option linter.all false
open Go.RowKit

/-- the next number from -9 to 9 -/
def cyc (x : Int) : Int := (x + 10) % 19 - 9
def cycN : Nat → Int → Int
  | 0, x => x
  | j + 1, x => cycN j (cyc x)
theorem cyc_rng (x : Int) : -9 ≤ cyc x ∧ cyc x ≤ 9 := by unfold cyc; omega
theorem cyc_free {x : Int} (hx : -9 ≤ x ∧ x ≤ 9) : ∀ {out : List Int}, out.length ≤ 3 → ∃ j, j < 4 ∧ cycN j x ∉ out := by
  intro out hl
  have d01 : cycN 0 x ≠ cycN 1 x := by simp only [cycN, cyc]; omega
  have d02 : cycN 0 x ≠ cycN 2 x := by simp only [cycN, cyc]; omega
  have d03 : cycN 0 x ≠ cycN 3 x := by simp only [cycN, cyc]; omega
  have d12 : cycN 1 x ≠ cycN 2 x := by simp only [cycN, cyc]; omega
  have d13 : cycN 1 x ≠ cycN 3 x := by simp only [cycN, cyc]; omega
  have d23 : cycN 2 x ≠ cycN 3 x := by simp only [cycN, cyc]; omega
  apply Classical.byContradiction
  intro h
  have a : ∀ j, j < 4 → cycN j x ∈ out := fun j hj => Classical.byContradiction fun e => h ⟨j, hj, e⟩
  have a0 := a 0 (by omega)
  have a1 := a 1 (by omega)
  have a2 := a 2 (by omega)
  have a3 := a 3 (by omega)
  clear a h
  generalize cycN 0 x = c0 at *
  generalize cycN 1 x = c1 at *
  generalize cycN 2 x = c2 at *
  generalize cycN 3 x = c3 at *
  match out, hl with
  | [], _ => cases a0
  | [a], _ => simp at a0 a1; omega
  | [a, b], _ => simp at a0 a1 a2; omega
  | [a, b, c], _ => simp at a0 a1 a2 a3; omega

set_option maxRecDepth 100000 in
set_option maxHeartbeats 4000000 in
/-- n different numbers from -9 to 9 -/
theorem dApart_any (k n : Nat) (w : World) (h : Cur w k) (h4 : n ≤ 4) :
    Calls Tryz.prog 13 #[.pointer (some ⟨k, 0, none⟩), .int .i64 (n : Int)] w fun e w' =>
      ∃ (u : Value) (ys : List Int), e = .returned u ∧ OwnI 3 w' w.heap.size w'.heap.size u ys ∧ ys.length = n ∧ ys.Nodup ∧ (∀ x ∈ ys, -9 ≤ x ∧ x ≤ 9) ∧ Cur w' k ∧ Frm k (k + 1) w w' := by
  have Hc := Lib.hid h
  have hk := h.lt
  clear h
  go_enter Tryz.func13, Tryz.ntmps13
  go_wp2_with fail
  go_loopg [5] n (fun g s5 wr => ∃ (i : Nat) (cs : List Int), i ≤ n ∧ g = n - i ∧ Hid (cs.length = i) ∧ Hid (cs.Nodup) ∧ Hid (∀ x ∈ cs, -9 ≤ x ∧ x ≤ 9) ∧ Hid (OwnI 3 wr w.heap.size wr.heap.size s5 cs) ∧ Hid (Cur wr k) ∧ Hid (Frm k (k + 1) w wr))
  case atStart =>
    refine ⟨0, [], Nat.zero_le _, rfl, Lib.hid rfl, Lib.hid List.nodup_nil, Lib.hid (by simp), ?_, Hc.out.below (below_alloc w _), Frm.of_below (below_alloc w _) _ _⟩
    exact OwnF.ints ((OwnF.made0 w 3 (iv [])).mono (Nat.le_refl _) (by simp))
  case round =>
    obtain ⟨i, cs, hi, rfl, hcl, hnd, hrg, ho, hcu, hf⟩ := hrel
    obtain ⟨wx, rfl⟩ : ∃ x : World, x = wr := ⟨_, rfl⟩
    have hsr := hf.out.size
    obtain ⟨p5, k5, rfl, hk5, hk55⟩ := ho.out.shape
    have hofn := ho.out.fn
    rw [hcl.out] at hofn hk5 ⊢
    unfold maxLen at hk55
    have Ho := Lib.hid ho.out
    have Hofn := Lib.hid hofn
    have Hcl := Lib.hid hcl.out
    have Hnd := Lib.hid hnd.out
    have Hrg := Lib.hid hrg.out
    have Hcu := Lib.hid hcu.out
    have Hf := Lib.hid hf.out
    clear hcl hnd hrg ho hcu hf hofn
    by_cases hlt : i < n
    · have hlt2 : (i : Int) < (n : Int) := by omega
      have Hb1 := Lib.hid (show i + 1 ≤ maxLen by unfold maxLen; omega)
      have Hb2 := Lib.hid (show (i + 1) * 8 ≤ 140737488355328 by omega)
      go_wp2_with fail
      refine (l1Below_any k 19 _ Hcu.out (by omega) (by omega)).mono ?_
      rintro e w1 ⟨x0, rfl, hx0, hc1, hf1⟩
      have hs1 := hf1.size
      have Ho1 := Lib.hid (Ho.out.frm hf1 (Or.inr (by omega)))
      have Hofn1 := Lib.hid (Hofn.out.frm hf1 (Or.inr (by omega)))
      have Hc1 := Lib.hid hc1
      have Hf1 := Lib.hid (Hf.out.trans hf1)
      clear hc1 hf1
      rw [Hcl.out] at Ho1
      go_wp2_with fail
      go_loopg [6] 4 (fun g s6 wr => ∃ x : Int, s6 = .int .i64 x ∧ -9 ≤ x ∧ x ≤ 9 ∧ Hid (∃ j, j < g ∧ cycN j x ∉ cs) ∧ Hid (Qt w1 wr))
      case atStart => exact ⟨(x0 : Int) - 9, by go_num, by omega, by omega, Lib.hid (cyc_free ⟨by omega, by omega⟩ (by rw [Hcl.out]; omega)), Lib.hid (Qt.refl _)⟩
      case round =>
        obtain ⟨x, rfl, hx1, hx2, hfr, hq⟩ := hrel
        obtain ⟨wy, rfl⟩ : ∃ x : World, x = wr := ⟨_, rfl⟩
        have Hfr := Lib.hid hfr.out
        have Hq := Lib.hid hq.out
        obtain ⟨bb, hbb⟩ : ∃ bb, bb = decide (x ∈ cs) := ⟨_, rfl⟩
        have Hbb := Lib.hid hbb
        clear hfr hq hbb
        go_wp2_with fail
        refine (l1Has_any _ cs x _ (Ho1.out.ints.qt Hq.out)).mono ?_
        rintro e w2 ⟨rfl, hq2⟩
        rw [← Hbb.out]
        have Hq2 := Lib.hid (Hq.out.trans hq2)
        clear hq2
        cases bb with
        | true =>
          have hin : x ∈ cs := of_decide_eq_true Hbb.out.symm
          obtain ⟨j, hj, hjn⟩ := Hfr.out
          have hj0 : ∃ i, j = i + 1 := by
            cases j with
            | zero => exact absurd hin hjn
            | succ i => exact ⟨i, rfl⟩
          obtain ⟨j', rfl⟩ := hj0
          have hcr := cyc_rng x
          have Hc := Lib.hid (show ∃ j, j < gk - 1 ∧ cycN j (cyc x) ∉ cs from ⟨j', by omega, hjn⟩)
          have hcy : cyc x = (x + 10) % 19 - 9 := rfl
          have hx10 : 0 ≤ x + 10 := by omega
          clear hin hjn
          go_wp2_with fail
          go_roundg (gk - 1)
          case measure => omega
          case rel =>
            exact ⟨cyc x, by rw [hcy], hcr.1, hcr.2, Hc, Hq2⟩
        | false =>
          have Hnin := Lib.hid (show x ∉ cs from of_decide_eq_false Hbb.out.symm)
          clear Hbb
          have Hofn2 := Lib.hid (Hofn1.out.below (Hq2.out.below _))
          have Hsq := Lib.hid Hq2.out.size
          have hsq1 : w.heap.size ≤ w2.heap.size := by rw [Hsq.out]; omega
          have hsq2 : wx.heap.size ≤ w2.heap.size := by rw [Hsq.out]; omega
          go_wp2_with (at_builtin; go_must (refine wpList_append_F rfl (.tmp 22) (.tmp 24) 24 rfl 3 (.int .i64 0) 8 Tryz.underlying24 info_int rfl w.heap.size wx.heap.size _ i (iv cs) rfl (Hofn2.out.below (below_alloc w2 _)) (by rw [size_alloc]; omega) (by rw [size_alloc]; omega) _ 1 _ rfl (rd_one _ _ _ rfl) (fun j _ => rfl) Hb1.out Hb2.out ?_; intro v3 w3 ho3 hg3))
          go_roundg (n - (i + 1))
          case measure => omega
          case rel =>
            have hbx : Below w.heap.size w2 w3 := ((below_alloc w2 _).mono (by omega)).trans (grownBy_below hg3 Hofn2.out.blocks (Nat.le_refl _) (by rw [size_alloc]; omega))
            have hb1 : Below w.heap.size w1 w3 := (Hq2.out.below _).trans hbx
            refine ⟨i + 1, cs ++ [x], by omega, rfl, Lib.hid (by rw [List.length_append, Hcl.out]; rfl), Lib.hid ?_, Lib.hid ?_, Lib.hid ?_, Lib.hid (Hc1.out.keepB hb1 hk), Lib.hid (Hf1.out.thenB hb1 (Nat.le_refl _))⟩
            · rw [List.nodup_append]
              exact ⟨Hnd.out, by simp, fun a ha b hb e => by
                rw [List.mem_singleton] at hb
                exact Hnin.out (by rw [← hb, ← e]; exact ha)⟩
            · intro z hz
              rcases List.mem_append.1 hz with hz | hz
              · exact Hrg.out z hz
              · rw [List.mem_singleton] at hz; omega
            · exact OwnI.snoc1 (by rw [Hcl.out]; exact ho3)
    · obtain rfl : i = n := by omega
      have hlt2 : ¬ (i : Int) < (i : Int) := by omega
      go_wp2_with fail
      go_ret
      first | exact ⟨_, rfl, cs, by rw [Hcl.out] at Ho; exact Ho.out, Hcl.out, Hnd.out, Hrg.out, Hcu.out, Hf.out⟩ | exact ⟨_, cs, rfl, by rw [Hcl.out] at Ho; exact Ho.out, Hcl.out, Hnd.out, Hrg.out, Hcu.out, Hf.out⟩

theorem below_of_drew' {w w' : World} (h : Below w.drew.heap.size w.drew w') : Below w.heap.size w w' := ⟨h.os, h.tape, h.output, h.size, h.block⟩
theorem own_tk {T : TypeId} {w w0 : World} {hi n : Nat} {v : Value} {xs : List Int} (h : OwnI T w w0.drew.heap.size hi v xs) (hl : xs.length = n) : OwnF w w0.heap.size hi T v n (iv xs) := by
  subst hl
  exact h.fn
theorem rise_own {T : TypeId} {w : World} {lo hi t l n : Nat} {v : Value} {zs : List Int} {y : Int} {F : Nat → Value} (h : OwnF w lo hi T v (t + 1 + l) (fun j => if j < t + 1 then F j else iv (zs.drop t) (j - (t + 1)))) (ht : (zs.take t).length = t) (hl : (zs.drop t).length = l) (hn : t + 1 + l = n)
    (hF : F = fun j => if j < t then iv (zs.take t) j else .int .i64 y := by rfl) : ∃ g k, v = .slice (some ⟨g, 0, none⟩) n k ∧ OwnI T w lo hi (.slice (some ⟨g, 0, none⟩) n k) (zs.take t ++ y :: zs.drop t) := by
  subst hF
  have hlen : (zs.take t ++ y :: zs.drop t).length = t + 1 + l := by rw [List.length_append, List.length_cons, ht, hl]; omega
  have ho : OwnI T w lo hi v (zs.take t ++ y :: zs.drop t) := by
    refine OwnF.ints ?_
    rw [hlen]
    refine h.congr fun j hj => ?_
    have e : ∀ a b : Value, a = b → a = b := fun _ _ h => h
    unfold iv
    by_cases h1 : j < t + 1
    · rw [if_pos h1]
      dsimp only
      by_cases h2 : j < t
      · rw [if_pos h2]
        simp only [List.getD_eq_getElem?_getD]
        rw [List.getElem?_append_left (by rw [ht]; exact h2)]
      · rw [if_neg h2]
        have h3 : j = t := by omega
        simp only [List.getD_eq_getElem?_getD]
        rw [List.getElem?_append_right (by rw [ht]; omega), ht, h3, Nat.sub_self]
        rfl
    · rw [if_neg h1]
      simp only [List.getD_eq_getElem?_getD]
      rw [List.getElem?_append_right (by rw [ht]; omega), ht, show j - t = (j - (t + 1)) + 1 by omega, List.getElem?_cons_succ]
  obtain ⟨p, cap, rfl, _, _, hx⟩ := ho.fn.shape
  obtain ⟨g, rfl, _⟩ := hx (by omega)
  rw [hlen, hn] at ho
  rw [hlen, hn]
  exact ⟨g, cap, rfl, ho⟩
theorem rise_perm {zs ys : List Int} {i t : Nat} {y : Int} (h : zs.Perm (ys.take i)) (hi : i < ys.length) (hy : y = ys.getD i 0) : (zs.take t ++ y :: zs.drop t).Perm (ys.take (i + 1)) := by
  have e : ys.take (i + 1) = ys.take i ++ [y] := by rw [hy, getD_lt hi, List.take_append_getElem]
  rw [e]
  refine List.perm_middle.trans ?_
  rw [List.take_append_drop]
  refine (List.Perm.cons y h).trans ?_
  exact (List.perm_append_singleton y _).symm
theorem own_tk2 {T : TypeId} {w w0 : World} {o : Obj} {hi n : Nat} {v : Value} {xs : List Int} (h : OwnI T w (w0.alloc o).drew.heap.size hi v xs) (hl : xs.length = n) : OwnF w w0.heap.size hi T v n (iv xs) := by
  subst hl
  exact h.fn.mono (by show w0.heap.size ≤ (w0.alloc o).heap.size; rw [size_alloc]; omega) (Nat.le_refl _)
theorem le_alloc2 {w W : World} {B : Nat} (o : Obj) (h : B ≤ w.heap.size) (hb : Below w.heap.size w W) : B ≤ (W.alloc o).heap.size := by
  rw [size_alloc]; have := hb.size; omega
theorem keep1 {wr W W' : World} {a : Addr} {v : Value} (hb : Below W.heap.size W W') (h : W.cell? a = some v ∧ Below wr.heap.size wr W) : W'.cell? a = some v ∧ Below wr.heap.size wr W' :=
  ⟨cell_below hb h.1, below_trans h.2 hb⟩
theorem keep1B {wr W W' : World} {a : Addr} {v : Value} {B : Nat} (hb : Below B W W') (ha : a.block < B) (hw : wr.heap.size ≤ B) (h : W.cell? a = some v ∧ Below wr.heap.size wr W) : W'.cell? a = some v ∧ Below wr.heap.size wr W' :=
  ⟨by rw [hb.cell ha]; exact h.1, h.2.trans (hb.mono hw)⟩
theorem ints_drop3 {w : World} {b n cap c : Nat} {xs : List Int} (h : Ints w (.slice (some ⟨b, 0, none⟩) n cap) xs) (hl : xs.length = n) (hc : c ≤ n) (h1 : n ≤ cap) (h2 : cap ≤ 2 ^ 63 - 1) : Ints w (.slice (if cap = c then some ⟨b, 0, none⟩ else some ⟨b, c, none⟩) (n - c) (cap - c)) (xs.drop c) := by
  by_cases e : cap = c
  · have e2 : n - c = 0 := by omega
    have e3 : xs.drop c = [] := List.drop_eq_nil_iff.2 (by omega)
    rw [if_pos e, e2, e3]
    exact ⟨_, _, rfl, ⟨Nat.zero_le _, by unfold maxLen; omega⟩, fun h => absurd h (Nat.lt_irrefl _)⟩
  · rw [if_neg e]
    unfold Ints at h ⊢
    rw [hl] at h
    have := Rd.part h c (n - c) (cap - c) (by omega) (by omega) (by unfold maxLen; omega)
    rw [Nat.zero_add] at this
    rw [List.length_drop, hl]
    exact this.congr fun j hj => by simp [iv, List.getD_eq_getElem?_getD]
theorem ints_takeP2' {w : World} {p : Option Addr} {n t cap : Nat} {xs : List Int} (h : Ints w (.slice p n cap) xs) (hl : xs.length = n) (ht : t ≤ n) : Ints w (.slice p t cap) (xs.take t) := by
  subst hl
  exact h.take t ht
theorem ints_drop2 {w : World} {b n cap c : Nat} {xs : List Int} (h : Ints w (.slice (some ⟨b, 0, none⟩) n cap) xs) (hl : xs.length = n) (hc : c ≤ n) (h1 : n ≤ cap) (h2 : cap ≤ 2 ^ 63 - 1) : Ints w (.slice (some ⟨b, c, none⟩) (n - c) (cap - c)) (xs.drop c) := by
  unfold Ints at h ⊢
  rw [hl] at h
  have := Rd.part h c (n - c) (cap - c) (by omega) (by omega) (by unfold maxLen; omega)
  rw [Nat.zero_add] at this
  rw [List.length_drop, hl]
  exact this.congr fun j hj => by simp [iv, List.getD_eq_getElem?_getD]

end Go.Proofs.YtnpghgpejnlebaaGreat

namespace Go.Proofs.YtnpghgpejnlebaaGreat
set_option linter.all false
open Go.RowKit

/-- i parts are drawn, m is the most that the next may have -/
structure ShUp (xs : List Int) (i c m : Nat) : Prop where
  len : xs.length = i
  each : ∀ j, j < i → shAt xs j
  le : m ≤ c
  zero : i = 0 → m = c
  last : 0 < i → xs.getD (i - 1) 0 = (m : Int)
  first : 0 < i → xs.getD 0 0 ≤ (c : Int)
theorem ShUp.nil (c : Nat) : ShUp [] 0 c c := ⟨rfl, fun j h => absurd h (Nat.not_lt_zero _), Nat.le_refl _, fun _ => rfl, fun h => absurd h (Nat.lt_irrefl _), fun h => absurd h (Nat.lt_irrefl _)⟩
theorem ShUp.snoc {xs : List Int} {i c m x : Nat} (h : ShUp xs i c m) (hc : c ≤ 16) (h1 : 1 ≤ x) (hx : x ≤ m) : ShUp (xs ++ [(x : Int)]) (i + 1) c x := by
  obtain ⟨hl, he, hle, hz, hla, hfi⟩ := h
  have old : ∀ j, j < i → (xs ++ [(x : Int)]).getD j 0 = xs.getD j 0 := fun j hj => by
    rw [List.getD_eq_getElem?_getD, List.getElem?_append_left (by omega), ← List.getD_eq_getElem?_getD]
  have new : (xs ++ [(x : Int)]).getD i 0 = (x : Int) := by
    rw [List.getD_eq_getElem?_getD, List.getElem?_append_right (by omega)]
    simp [hl]
  refine ⟨by simp [hl], fun j hj => ?_, by omega, fun e => absurd e (by omega), fun _ => by rw [Nat.add_sub_cancel]; exact new, fun _ => ?_⟩
  · unfold shAt
    by_cases e : j < i
    · have := he j e
      unfold shAt at this
      rw [old j e]
      refine ⟨this.1, this.2.1, fun h0 => ?_⟩
      rw [old (j - 1) (by omega)]
      exact this.2.2 h0
    · obtain rfl : j = i := by omega
      rw [new]
      refine ⟨by omega, by omega, fun h0 => ?_⟩
      rw [old (j - 1) (by omega), hla h0]
      omega
  · by_cases e : i = 0
    · subst e
      rw [new]; omega
    · rw [old 0 (by omega)]; exact hfi (by omega)
theorem ShUp.box {xs : List Int} {i r c m : Nat} (h : ShUp xs i c m) (hi : i ≤ r) (hr : r ≤ 16) : bxOk xs r (r + c) = true := by
  obtain ⟨hl, he, hle, hz, hla, hfi⟩ := h
  rw [bx_end (shOk_yes (by omega) (fun j hj => he j (by omega))) (by omega)]
  refine decide_eq_true ?_
  by_cases e : i = 0
  · have : xs = [] := List.eq_nil_of_length_eq_zero (by omega)
    subst this
    show (0 : Int) ≤ _
    omega
  · have := hfi (by omega)
    omega

set_option maxRecDepth 100000 in
set_option maxHeartbeats 2000000 in
/-- any shape in a box -/
theorem dShape_any (k r c : Nat) (w : World) (h : Cur w k) (hr : r ≤ 7) (hc : c ≤ 7) :
    Calls Tryz.prog 12 #[.pointer (some ⟨k, 0, none⟩), .int .i64 (r : Int), .int .i64 (c : Int)] w fun e w' =>
      ∃ (u : Value) (xs : List Int), e = .returned u ∧ OwnI 3 w' w.heap.size w'.heap.size u xs ∧ bxOk xs r (r + c) = true ∧ Cur w' k ∧ Frm k (k + 1) w w' := by
  have Hc := Lib.hid h
  have hk := h.lt
  clear h
  go_enter Tryz.func12, Tryz.ntmps12
  go_wp2_with fail
  go_loopg [7, 8, 9] r (fun g s7 s8 s9 wr => ∃ (i m : Nat) (xs : List Int), i ≤ r ∧ g = r - i ∧ s9 = .int .i64 i ∧ s8 = .int .i64 m ∧ m ≤ c ∧ Hid (ShUp xs i c m) ∧ Hid (OwnI 3 wr w.heap.size wr.heap.size s7 xs) ∧ Hid (Cur wr k) ∧ Hid (Frm k (k + 1) w wr))
  case atStart =>
    refine ⟨0, c, [], Nat.zero_le _, rfl, rfl, rfl, Nat.le_refl _, ShUp.nil c, ?_, Hc.out.below (below_alloc w _), Frm.of_below (below_alloc w _) _ _⟩
    exact OwnF.ints ((OwnF.made0 w 3 (iv [])).mono (Nat.le_refl _) (by simp))
  case round =>
    obtain ⟨i, m, xs, hi, rfl, rfl, rfl, hm, hu, ho, hcu, hf⟩ := hrel
    have hsr := hf.out.size
    by_cases hlt : i < r
    · have hlt2 : (i : Int) < (r : Int) := by omega
      by_cases hm0 : 0 < m
      · have hm2 : (0 : Int) < (m : Int) := by omega
        have Hm1 := Lib.hid (show (m : Int) + 1 = ((m + 1 : Nat) : Int) by omega)
        obtain ⟨p5, k5, rfl, _, _⟩ := ho.out.shape
        have hofn := ho.out.fn
        have hml : xs.length = i := hu.out.len
        rw [hml] at hofn ⊢
        have Ho := Lib.hid hofn
        have Hoi := Lib.hid (show OwnI 3 wr w.heap.size wr.heap.size (.slice p5 i k5) xs by rw [← hml]; exact ho.out)
        have Hml := Lib.hid hml
        have Hcu := Lib.hid hcu.out
        have Hf := Lib.hid hf.out
        have Hu := Lib.hid hu.out
        have Hb1 := Lib.hid (show i + 1 ≤ maxLen by unfold maxLen; omega)
        have Hb2 := Lib.hid (show (i + 1) * 8 ≤ 140737488355328 by omega)
        clear ho hofn hml hcu hf hu
        go_wp2_with fail
        rw [Hm1.out]
        refine (l1Below_any k (m + 1) _ Hcu.out (by omega) (by omega)).mono ?_
        rintro e w1 ⟨x, rfl, hx, hc1, hf1⟩
        have hs1 := hf1.size
        have Ho1 := Lib.hid (Ho.out.frm hf1 (Or.inr (by omega)))
        have Hoi1 := Lib.hid (Hoi.out.frm hf1 (Or.inr (by omega)))
        have Hc1 := Lib.hid hc1
        have Hf1 := Lib.hid (Hf.out.trans hf1)
        clear hc1 hf1
        by_cases hx0 : x = 0
        · subst hx0
          go_wp2_with fail
          go_ret
          exact ⟨_, xs, rfl, by have := Hoi1.out.mono (Nat.le_refl _) hs1; exact this, Hu.out.box hi (by omega), Hc1.out, Hf1.out⟩
        · have hx2 : ¬ (x : Int) = 0 := by omega
          go_wp2_with (at_builtin; go_must (refine wpList_append_F rfl (.tmp 29) (.tmp 31) 24 rfl 3 (.int .i64 0) 8 Tryz.underlying24 info_int rfl w.heap.size wr.heap.size _ i (iv xs) rfl (Ho1.out.below (below_alloc w1 _)) (by rw [size_alloc]; omega) (by rw [size_alloc]; omega) _ 1 _ rfl (rd_one _ _ _ rfl) (fun j _ => rfl) Hb1.out Hb2.out ?_; intro v2 w2 ho2 hg2))
          go_roundg (r - (i + 1))
          case measure => omega
          case rel =>
            have hbx : Below w.heap.size w1 w2 := ((below_alloc w1 _).mono (by omega)).trans (grownBy_below hg2 Ho1.out.blocks (Nat.le_refl _) (by rw [size_alloc]; omega))
            refine ⟨i + 1, x, xs ++ [(x : Int)], by omega, rfl, by go_num, rfl, by omega, Hu.out.snoc (by omega) (by omega) (by omega), ?_, Hc1.out.keepB hbx hk, Hf1.out.thenB hbx (Nat.le_refl _)⟩
            exact OwnI.snoc1 (by rw [Hml.out]; exact ho2)
      · have hm2 : ¬ (0 : Int) < (m : Int) := by omega
        obtain ⟨p5, k5, rfl, _, _⟩ := ho.out.shape
        go_wp2_with fail
        go_ret
        exact ⟨_, rfl, xs, ho.out, hu.out.box hi (by omega), hcu.out, hf.out⟩
    · have hlt2 : ¬ (i : Int) < (r : Int) := by omega
      obtain ⟨p5, k5, rfl, _, _⟩ := ho.out.shape
      go_wp2_with fail
      go_ret
      exact ⟨_, rfl, xs, ho.out, hu.out.box hi (by omega), hcu.out, hf.out⟩

end Go.Proofs.YtnpghgpejnlebaaGreat

namespace Go.Proofs.YtnpghgpejnlebaaGreat
set_option linter.all false
open Go.RowKit

set_option maxRecDepth 100000 in
set_option maxHeartbeats 2000000 in
theorem dBox4_any (k : Nat) (w : World) (h : Cur w k) :
    Calls Tryz.prog 11 #[.pointer (some ⟨k, 0, none⟩), .int .i64 4] w fun e w' => ∃ (r n : Nat), e = .returned (.tuple #[.int .i64 (r : Int), .int .i64 (n : Int)]) ∧ 2 ≤ n ∧ n ≤ 4 ∧ r ≤ n ∧ Cur w' k ∧ Frm k (k + 1) w w' := by
  have Hc := Lib.hid h
  have hk := h.lt
  clear h
  go_enter Tryz.func11, Tryz.ntmps11
  go_wp2_with fail
  refine (l1Below_any k 3 _ Hc.out (by omega) (by omega)).mono ?_
  rintro e w1 ⟨x, rfl, hx, hc1, hf1⟩
  obtain ⟨n, hn⟩ : ∃ n, n = x + 2 := ⟨_, rfl⟩
  have hnz : (2 : Int) + (x : Int) = (n : Int) := by omega
  have Hc1 := Lib.hid hc1
  have Hf1 := Lib.hid hf1
  have hn2 : 2 ≤ n := by omega
  have hn4 : n ≤ 4 := by omega
  have hs1 := hf1.size
  have hk1 := hc1.lt
  clear hc1 hf1 hn
  go_wp2_with fail
  try rw [hnz]
  clear hnz
  refine (l1Once_any k 12 _ Hc1.out (by omega) (by omega)).mono ?_
  rintro e w2 ⟨b, rfl, hc2, hf2⟩
  have Hc2 := Lib.hid hc2
  have Hf2 := Lib.hid (Hf1.out.trans hf2)
  have hk2 := hc2.lt
  clear hc2 hf2
  cases b with
  | true =>
    have hb3 := below_alloc w2 (.cells #[.int .i64 0, .int .i64 (n : Int)] 3)
    have ho3 : Ints (w2.alloc (.cells #[.int .i64 0, .int .i64 (n : Int)] 3)) (.slice (some ⟨w2.heap.size, 0, none⟩) 2 2) [0, (n : Int)] := by
      have z0 : (w2.alloc (.cells #[.int .i64 0, .int .i64 (n : Int)] 3)).heap[w2.heap.size]? = some (.cells #[.int .i64 0, .int .i64 (n : Int)] 3 (0, 0)) := heap_alloc_top _ _
      refine ⟨_, _, rfl, ⟨Nat.le_refl _, by unfold maxLen; decide⟩, fun _ => ⟨w2.heap.size, 0, rfl, fun j hj => ?_⟩⟩
      match j, hj with
      | 0, _ => exact cell_of_blk z0 (j := 0) rfl
      | 1, _ => exact cell_of_blk z0 (j := 1) rfl
    have Hb3 := Lib.hid hb3
    have Ho3 := Lib.hid ho3
    clear hb3 ho3
    go_wp2_with fail
    refine (l1PickInt_any k _ [0, (n : Int)] _ (Hc2.out.below Hb3.out) Ho3.out (fun p n' c e a ha => ?_) (by show 1 ≤ 2; omega) (by show 2 ≤ 256; omega)).mono ?_
    · injection e with e1 e2 e3
      rw [← e1] at ha
      injection ha with ha
      rw [← ha]
      show w2.heap.size ≠ k
      omega
    rintro e w4 ⟨x, hx, rfl, hc4, hf4⟩
    have Hc4 := Lib.hid hc4
    have Hf4 := Lib.hid ((Hf2.out.thenB (Hb3.out.mono (Hf2.out.size)) (Nat.le_refl _)).trans hf4)
    have Hx := Lib.hid hx
    clear hc4 hf4 hx
    go_wp2_with fail
    go_ret2
    have hx := Hx.out
    simp only [List.mem_cons, List.not_mem_nil, or_false] at hx
    rcases hx with rfl | rfl
    · exact ⟨0, n, rfl, hn2, hn4, by omega, Hc4.out, Hf4.out⟩
    · exact ⟨n, n, rfl, hn2, hn4, by omega, Hc4.out, Hf4.out⟩
  | false =>
    obtain ⟨m, hm⟩ : ∃ m, m + 1 = n := ⟨n - 1, by omega⟩
    have hmz : (n : Int) - 1 = (m : Int) := by omega
    have hm1 : 1 ≤ m := by omega
    have hmm : m ≤ 256 := by omega
    have Hm := Lib.hid hm
    clear hm
    go_wp2_with fail
    try rw [hmz]
    clear hmz
    refine (l1Below_any k m _ Hc2.out hm1 hmm).mono ?_
    rintro e w4 ⟨x, rfl, hx, hc4, hf4⟩
    have Hc4 := Lib.hid hc4
    have Hf4 := Lib.hid (Hf2.out.trans hf4)
    have hx1 : 1 + (x : Int) = ((x + 1 : Nat) : Int) := by omega
    have Hx1 := Lib.hid hx1
    clear hc4 hf4 hx1
    go_wp2_with fail
    go_ret2
    have := Hm.out
    exact ⟨x + 1, n, by rw [← Hx1.out]; rfl, hn2, hn4, by omega, Hc4.out, Hf4.out⟩

theorem results_tmp5 {fn : Func} {t u v x y : Tmp} (h : fn.results = #[.tmp t, .tmp u, .tmp v, .tmp x, .tmp y]) (tmps : Array Value) (P : Program) (w : World) :
    (results fn tmps).run P w = .ok (.tuple #[tmps.getD t undef, tmps.getD u undef, tmps.getD v undef, tmps.getD x undef, tmps.getD y undef]) w := by
  simp [results, h]
set_option maxRecDepth 100000 in
set_option maxHeartbeats 4000000 in
theorem DrawWeights_any (v : Value) (l : Nat) (w : World) (h : Byts w v l) :
    Calls Tryz.prog 5 #[v] w fun e w' =>
      ∃ (u1 u2 u3 : Value) (xs zs ys : List Int) (k n : Nat), e = .returned (.tuple #[u1, u2, .int .i64 (k : Int), .int .i64 (n : Int), u3]) ∧ Ints w' u1 xs ∧ Ints w' u2 zs ∧ Ints w' u3 ys ∧ bxOk xs k n = true ∧ bxOk zs k n = true ∧ ys.length = n ∧ ys.Nodup ∧ (∀ y ∈ ys, -9 ≤ y ∧ y ≤ 9) ∧ 2 ≤ n ∧ n ≤ 4 ∧ k ≤ n ∧ Below w.heap.size w w' := by
  have Hh := Lib.hid h
  obtain ⟨_, _, cap, rfl, _⟩ := h
  go_enter Tryz.func5, Tryz.ntmps5
  go_wp2_with fail
  refine (l1New_any _ l _ Hh.out).mono ?_
  rintro e w2 ⟨rfl, hc2, hb2⟩
  have HC2 := Lib.hid hc2
  have HB2 := Lib.hid hb2
  have hk2 := hc2.lt
  clear hc2 hb2
  go_wp2_with fail
  refine (dBox4_any w.heap.size _ HC2.out).mono ?_
  rintro e w3 ⟨k, n, rfl, hn2, hn4, hkn, hc3, hf3⟩
  have HC3 := Lib.hid hc3
  have HB3 := Lib.hid (HB2.out.trans (hf3.below (Nat.le_refl _) (by omega)))
  have hs3 := hf3.size
  obtain ⟨m, hm⟩ : ∃ m, k + m = n := ⟨n - k, by omega⟩
  have hmz : (n : Int) - (k : Int) = (m : Int) := by omega
  have Hmz := Lib.hid hmz
  have Hm := Lib.hid hm
  have hk7 : k ≤ 7 := by omega
  have hm7 : m ≤ 7 := by omega
  clear hc3 hf3 hm
  go_wp2_with fail
  try rw [hmz]
  clear hmz
  refine (dShape_any w.heap.size k m _ HC3.out hk7 hm7).mono ?_
  rintro e w4 ⟨u1, xs, rfl, ho1, hx1, hc4, hf4⟩
  have HX4 := Lib.hid ho1
  have HBX := Lib.hid (show bxOk xs k n = true by rw [← Hm.out]; exact hx1)
  have HC4 := Lib.hid hc4
  have HB4 := Lib.hid (HB3.out.trans (hf4.below (Nat.le_refl _) (by omega)))
  have hs4 := hf4.size
  clear ho1 hx1 hc4 hf4
  have hmz := Hmz.out
  go_wp2_with fail
  try rw [hmz]
  clear hmz
  refine (dShape_any w.heap.size k m _ HC4.out hk7 hm7).mono ?_
  rintro e w5 ⟨u2, zs, rfl, ho2, hx2, hc5, hf5⟩
  have HZ5 := Lib.hid ho2
  have HX5 := Lib.hid (HX4.out.frm hf5 (Or.inr (by omega)))
  have HBZ := Lib.hid (show bxOk zs k n = true by rw [← Hm.out]; exact hx2)
  have HC5 := Lib.hid hc5
  have HB5 := Lib.hid (HB4.out.trans (hf5.below (Nat.le_refl _) (by omega)))
  have hs5 := hf5.size
  clear ho2 hx2 hc5 hf5
  go_wp2_with fail
  refine (dApart_any w.heap.size n _ HC5.out (by omega)).mono ?_
  rintro e w6 ⟨u3, ys, rfl, ho4, hl4, hd4, hr4, hc6, hf6⟩
  have HY6 := Lib.hid ho4
  have HL := Lib.hid hl4
  have HD := Lib.hid hd4
  have HR := Lib.hid hr4
  have HX6 := Lib.hid (HX5.out.frm hf6 (Or.inr (by omega)))
  have HZ6 := Lib.hid (HZ5.out.frm hf6 (Or.inr (by omega)))
  have HB6 := Lib.hid (HB5.out.trans (hf6.below (Nat.le_refl _) (by omega)))
  clear ho4 hl4 hd4 hr4 hc6 hf6
  go_wp2_with fail
  (try simp only [Exit.inBlock, Exit.then])
  refine bodyPost_ret (results_tmp5 rfl _ _ _) rfl ?_
  exact ⟨u1, u2, u3, xs, zs, ys, k, n, rfl, HX6.out.ints, HZ6.out.ints, HY6.out.ints, HBX.out, HBZ.out, HL.out, HD.out, HR.out, hn2, hn4, hkn, HB6.out⟩

end Go.Proofs.YtnpghgpejnlebaaGreat
