/-
  slices.Concat at []int, and the matrix of some rows.
-/
import Derived.Test.YtajilmfaconjbaaLawM
import Derived.Test.YtajilmfaconjbaaApp
import Derived.Test.YtajilmfaconjbaaList
namespace Go.Proofs.Ytajilmfaconjbaa
set_option linter.all false
open Go.RowKit

theorem info_sl : (Try.prog.info? 22).map (fun i => (i.zero, i.size, i.bytes)) = some (some (.slice none 0 0), 1, 24) := by kernel_rfl

theorem run_append_make_nil {P : Program} (w : World) (t ti ty e : TypeId) (z : Value) (bytes : Nat) (ht : P.underlying t = some (.slice e)) (hti : P.underlying ti = some (.int .i64))
    (hinfo : (P.info? e).map (fun i => (i.zero, i.size, i.bytes)) = some (some z, 1, bytes)) (hzs : z.cells.size = 1) (n : Nat) (h0 : 0 < n) (hn : n ≤ 1000000) (hb : bytes ≤ 1000) (hb0 : 0 < bytes) :
    ∃ cap w', (Builtin.append_ #[t, ti] ty #[.slice none 0 0, .int .i64 (n : Int)]).run P w = .ok (.slice (some ⟨w.heap.size, 0, none⟩) n cap) w' ∧ n ≤ cap ∧ cap ≤ maxLen ∧
      (∃ F, w'.rowIs w.heap.size e cap F) ∧ Below w.heap.size w w' ∧ w'.heap.size = w.heap.size + 1 := by
  obtain ⟨i, hi, hz, hsz, hby⟩ := info_parts hinfo
  have hge := grownCap_ge w n 0 e
  have hle := grownCap_le_maxLen w n 0 e (by unfold maxLen; omega)
  have hwr : IntKind.i64.wrap (n : Int) = (n : Int) := k64 (by omega) (by omega)
  have hnb : n * bytes ≤ 1000000 * 1000 := Nat.mul_le_mul hn hb
  have h1 : ¬ ((n : Int) < 0) := by omega
  have h3 : ¬ (281474976710656 < Builtin.nextslicecap n 0 * i.bytes) := by rw [nextslicecap_zero h0, hby]; omega
  have h4 : ¬ (281474976710656 < (n : Int) * (i.bytes : Int)) := by
    rw [hby]
    have : ((n * bytes : Nat) : Int) = (n : Int) * (bytes : Int) := Int.natCast_mul _ _
    omega
  have h5 : ¬ (9223372036854775807 < (n : Int)) := by omega
  have h6 : n ≠ 0 := by omega
  refine ⟨grownCap w n 0 e, w.drew.alloc (.cells (Builtin.zeroCells z.cells n ++ Builtin.zeroCells z.cells (grownCap w n 0 e - n)) e), ?_, hge, hle, ⟨fun j => (Builtin.zeroCells z.cells n ++ Builtin.zeroCells z.cells (grownCap w n 0 e - n)).getD j undef, ?_⟩, ?_, by simp⟩
  · simp [Builtin.append_, run_underlying ht, run_underlying hti, sizeOf, typeInfo, zeroValue, hi, hz, hsz, Builtin.firstCells, asInt, asIntOf, hwr, h1, h3, h4, h5, h6, Question.forced, newRow, grownCap, loadCells, loadCellsFrom]
  · have hs : (Builtin.zeroCells z.cells n ++ Builtin.zeroCells z.cells (grownCap w n 0 e - n)).size = grownCap w n 0 e := by
      rw [Array.size_append, size_zeroCells, size_zeroCells, hzs]; omega
    exact ⟨_, heap_alloc_new w.drew _, hs, fun j hj => by simp only [Array.getD_eq_getD_getElem?]; rw [Array.getElem?_eq_getElem (by omega)]; rfl⟩
  · exact ((Below.refl _ _).drew).alloc (by simp) _

theorem wpList_append_make_nil {P : Program} {w : World} {ops : Array Oper} {rest : List Oper} {o : Oper} {a : Act} {Q : Exit → Act → World → Prop} (hgd : o.guard = none) (s x : Operand) (t ti : TypeId)
    (ho : o.op = .call { callee := .builtin .append, args := #[s, x], argTypes := #[t, ti] })
    (e : TypeId) (z : Value) (bytes : Nat) (ht : P.underlying t = some (.slice e)) (hti : P.underlying ti = some (.int .i64))
    (hinfo : (P.info? e).map (fun i => (i.zero, i.size, i.bytes)) = some (some z, 1, bytes)) (hzs : z.cells.size = 1) (n : Nat) (h0 : 0 < n) (hn : n ≤ 1000000) (hb : bytes ≤ 1000) (hb0 : 0 < bytes)
    (hs : a.eval s = .slice none 0 0) (hx : a.eval x = .int .i64 (n : Int))
    (h : ∀ cap w' F, n ≤ cap → cap ≤ maxLen → w'.rowIs w.heap.size e cap F → Below w.heap.size w w' → wpList P ops Q rest (a.put o.dst (.slice (some ⟨w.heap.size, 0, none⟩) n cap)) w') :
    wpList P ops Q (o :: rest) a w := by
  refine wpList_plain hgd fun K hK' => ?_
  obtain ⟨cap, w', hr, h1, h2, ⟨F, hF⟩, hbw, _⟩ := run_append_make_nil (P := P) w t ti o.type e z bytes ht hti hinfo hzs n h0 hn hb hb0
  unfold Oper.wp
  simp [execOp, ho, resolve, invoke, builtin, hs, hx, hr, Result.andThen]
  exact hK' _ _ (h cap w' F h1 h2 hF hbw)

set_option maxRecDepth 100000 in
set_option maxHeartbeats 400000 in
/-- slices.Grow at nil: room for so many -/
theorem grow_nil (n : Nat) (w : World) (hn : n ≤ 1000000) :
    Calls Try.prog 76 #[.slice none 0 0, .int .i64 (n : Int)] w fun e w' => ∃ v, e = .returned v ∧ OwnF w' w.heap.size w'.heap.size 3 v 0 (fun _ => undef) ∧ Below w.heap.size w w' := by
  by_cases h0 : n = 0
  · subst h0
    go_enter Try.func76, Try.ntmps76
    go_wp2
    go_ret
    exact ⟨_, rfl, OwnF.nil _ _ _ _ _, Below.refl _ _⟩
  · have hpos : (0 : Int) < n := by omega
    go_enter Try.func76, Try.ntmps76
    go_wp2_with (at_builtin; refine wpList_append_make_nil rfl (.tmp 20) (.tmp 21) 22 3 rfl 3 (.int .i64 0) 8 Try.underlying22 Try.underlying3 info_int rfl n (by omega) hn (by omega) (by omega) rfl rfl ?_; intro cap w1 F h1 h2 hF hb)
    go_ret
    exact ⟨_, rfl, OwnF.mk' hF (Nat.le_refl _) hF.lt (Nat.zero_le _) h2 (fun j hj => absurd hj (Nat.not_lt_zero _)), hb⟩

theorem iv_append {xs ys : List Int} {n : Nat} (hn : n = xs.length) (j : Nat) : (if j < n then iv xs j else iv ys (j - n)) = iv (xs ++ ys) j := by
  subst hn
  unfold iv
  by_cases h : j < xs.length
  · rw [if_pos h]; simp [List.getD_eq_getElem?_getD, List.getElem?_append_left h]
  · rw [if_neg h]; simp [List.getD_eq_getElem?_getD, List.getElem?_append_right (Nat.le_of_not_lt h)]
theorem iv_one (xs : List Int) (j : Nat) : (iv xs j).oneCell' = true := rfl

set_option maxRecDepth 100000 in
set_option maxHeartbeats 1000000 in
/-- slices.Concat: the lists behind one another, in new memory -/
theorem concat_any (v : Value) (rows : List (List Int)) (w : World) (h : RdII w v rows) (hl : rows.flatten.length ≤ 1000000) :
    Calls Try.prog 63 #[v] w fun e w' => ∃ u, e = .returned u ∧ OwnI 3 w' w.heap.size w'.heap.size u rows.flatten ∧ Below w.heap.size w w' := by
  obtain ⟨f, ⟨p, cap, rfl, ⟨hx1, hx⟩, hxc⟩, hrows⟩ := h
  have Hrows := Lib.hid hrows
  have Hxc := Lib.hid hxc
  clear hrows hxc
  unfold maxLen at hx
  go_enter Try.func63, Try.ntmps63
  go_wp2_with fail
  go_loopg [3, 11] rows.length (fun g s3 i wr => ∃ k : Nat, k ≤ rows.length ∧ g = rows.length - k ∧ i = .int .i64 k ∧ s3 = .int .i64 ((rows.take k).flatten.length : Nat) ∧ wr = w)
  case atStart => exact ⟨0, Nat.zero_le _, rfl, rfl, by simp, rfl⟩
  case round =>
    obtain ⟨k, hk, rfl, rfl, rfl, rfl⟩ := hrel
    have hle := take_flat_le rows k
    by_cases hlt : k < rows.length
    · obtain ⟨b, off, rfl, hc⟩ := Hxc.out (by omega)
      obtain ⟨q, cq, e, ⟨hq1, hq2⟩, _⟩ := Hrows.out k hlt
      have c1 := hc k hlt
      rw [e] at c1
      have hsum := take_flat_len hlt
      have hle2 := take_flat_le rows (k + 1)
      obtain ⟨A, hA⟩ : ∃ A, A = (rows.take k).flatten.length := ⟨_, rfl⟩
      obtain ⟨L, hL⟩ : ∃ L, L = (rows.getD k []).length := ⟨_, rfl⟩
      rw [← hA] at hsum hle ⊢
      rw [← hL] at c1 hsum
      have HA := Lib.hid hA
      have HL := Lib.hid hL
      have hAL : A + L ≤ 1000000 := by omega
      have Hsum := Lib.hid hsum
      clear hA hL hsum hc e
      go_wp2_with fail
      all_goals
        go_roundg (rows.length - (k + 1))
        case measure => omega
        case rel => exact ⟨k + 1, by omega, rfl, by go_num, by rw [← Hsum.out]; go_num, rfl⟩
    · obtain rfl : k = rows.length := by omega
      rw [List.take_length] at hle ⊢
      obtain ⟨A, hA⟩ : ∃ A, A = rows.flatten.length := ⟨_, rfl⟩
      rw [← hA] at hl ⊢
      have HA := Lib.hid hA
      clear hA hle
      obtain ⟨wo, rfl⟩ : ∃ wo : World, wo = wr := ⟨_, rfl⟩
      go_wp2_with (go_at_call 76; refine (grow_nil _ _ hl).mono ?_; rintro e w1 ⟨v0, rfl, ho, hb⟩)
      go_loopg [6, 27] rows.length (fun g s6 i wx => ∃ k : Nat, k ≤ rows.length ∧ g = rows.length - k ∧ i = .int .i64 k ∧ Below wo.heap.size wo wx ∧
        OwnF wx wo.heap.size wx.heap.size 3 s6 (rows.take k).flatten.length (iv (rows.take k).flatten))
      case atStart => exact ⟨0, Nat.zero_le _, rfl, rfl, hb, by simpa using ho.congr fun j hj => absurd hj (Nat.not_lt_zero _)⟩
      case round =>
        obtain ⟨k, hk, rfl, rfl, hbx, hox⟩ := hrel
        clear ho hb
        have hle := take_flat_le rows k
        by_cases hlt : k < rows.length
        · obtain ⟨b, off, rfl, hc⟩ := Hxc.out (by omega)
          have hri := (Hrows.out k hlt).below hbx
          obtain ⟨q, cq, e, ⟨hq1, hq2⟩, _⟩ := Hrows.out k hlt
          have c1 : wr.cell? ⟨b, off + k, none⟩ = some (f k) := by
            rw [hbx.cell (p := ⟨b, off + k, none⟩) (World.block_lt_of_cell? _ _ (hc k hlt))]; exact hc k hlt
          rw [e] at c1 hri
          have hsum := take_flat_len hlt
          have hle2 := take_flat_le rows (k + 1)
          have hys := take_flat_succ hlt
          obtain ⟨ys, hy⟩ : ∃ ys, ys = rows.getD k [] := ⟨_, rfl⟩
          rw [← hy] at c1 hri hsum hq1 hys
          have Hys := Lib.hid hys
          have Hb1 := Lib.hid (show (rows.take k).flatten.length + ys.length ≤ maxLen by unfold maxLen; have := HA.out; omega)
          have Hb2 := Lib.hid (show ((rows.take k).flatten.length + ys.length) * 8 ≤ 140737488355328 by have := HA.out; omega)
          have Hri := Lib.hid hri
          have Hox := Lib.hid hox
          clear hsum hc e hle2 hle hri hox hy hys
          go_wp2_with (at_builtin; refine wpList_append_F rfl (.tmp 31) (.tmp 32) 22 rfl 3 (.int .i64 0) 8 Try.underlying22 info_int rfl wo.heap.size wr.heap.size _ _ _ rfl Hox.out hbx.size (Nat.le_refl _) _ _ _ rfl Hri.out (fun j _ => iv_one _ j) Hb1.out Hb2.out ?_; intro v' w' ho' hg')
          go_roundg (rows.length - (k + 1))
          case measure => omega
          case rel =>
            refine ⟨k + 1, by omega, rfl, by go_num, hbx.trans (grownBy_below hg' Hox.out.blocks (Nat.le_refl _) hbx.size), ?_⟩
            rw [Hys.out, List.length_append]
            exact ho'.congr fun j _ => iv_append rfl j
        · go_wp2_with fail
          go_ret
          obtain rfl : k = rows.length := by omega
          rw [List.take_length] at hox
          exact ⟨_, rfl, hox.ints, hbx⟩

set_option maxRecDepth 100000 in
set_option maxHeartbeats 400000 in
theorem matrixOf_any (p c : Int) (v : Value) (rows : List (List Int)) (w : World) (h : RdII w v rows) (hl : rows.flatten.length ≤ 1000000) :
    Calls Try.prog 41 #[.int .i64 p, .int .i64 c, v] w (RetM w ⟨p, rows.length, c, rows.flatten⟩) := by
  obtain ⟨q, cap, e⟩ : ∃ q cap, v = .slice q rows.length cap := by
    obtain ⟨f, ⟨q, cap, e, _⟩, _⟩ := h
    exact ⟨q, cap, e⟩
  subst e
  have Hn := Lib.hid fun o => concat_any _ rows (w.alloc o) (h.below (below_alloc w o)) hl
  go_enter Try.func41, Try.ntmps41
  go_wp2_with fail
  refine (Hn.out _).mono ?_
  rintro e w1 ⟨u, rfl, ho, hb⟩
  have hbw := (below_alloc w _).trans (hb.mono (by simp))
  have b0 : w1.heap[w.heap.size]? = some (.cells #[.int .i64 0, .int .i64 0, .int .i64 0, .slice none 0 0] 29) := by
    rw [hb.block _ (by simp)]; exact heap_alloc_top _ _
  obtain ⟨c00, c01, c02, c03, c0f, hz0⟩ := blk4 b0
  have ho' : OwnI 3 w1 (w.heap.size + 1) w1.heap.size u rows.flatten := ho.mono (by simp) (Nat.le_refl _)
  obtain ⟨up, ucap, rfl, _, _⟩ := ho'.shape
  clear hb ho b0 h
  have Ho := Lib.hid ho'
  clear ho'
  go_wp2_with fail
  refine bodyPost_ret (v := .agg #[.int .i64 p, .int .i64 rows.length, .int .i64 c, .slice up rows.flatten.length ucap]) (by simp [results, Try.results41, go_sem, c00, c01, c02, c03, hz0]) rfl ⟨_, rfl, ?_, ?_⟩
  · exact (own_set4 Ho.out (.inl (by omega)) _ _ _ _).mono (by omega) (by simp only [size_setCell]; omega)
  · exact below_set4 hbw (Nat.le_refl _) _ _ _ _

end Go.Proofs.Ytajilmfaconjbaa
