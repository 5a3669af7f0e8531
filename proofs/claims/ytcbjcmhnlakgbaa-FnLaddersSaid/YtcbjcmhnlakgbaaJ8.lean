/-
  PipeDreams.
  The laws' own comparisons: ints, matrices; how long the code is.
  The law FnLadders, walked.
-/
import Derived.Test.YtcbjcmhnlakgbaaJ7
import Derived.Test.YtcbjcmhnlakgbaaJ1
namespace Go.Proofs.Ytcbjcmhnlakgbaa
set_option linter.all false
set_option maxRecDepth 100000
open Go.RowKit

def nxD (n : Int) (last : List Drm) : List Drm := last.flatMap (movesB n)
def nwD (n : Int) (all last : List Drm) : List Drm := (ordD (nxD n last)).filter (notIn all)
theorem pipeF_zero {n : Int} {all last A : List Drm} (h : pipeF 0 n all last = some A) : False := by cases h
theorem pipeF_end {f : Nat} {n : Int} {all A : List Drm} (h : pipeF (f + 1) n all [] = some A) : A = all := by
  unfold pipeF at h
  rw [if_pos rfl] at h
  exact (Option.some.inj h).symm
theorem pipeF_step {f : Nat} {n : Int} {all last A : List Drm} (hl : last ≠ []) (h : pipeF (f + 1) n all last = some A) :
    okL all = true ∧ okL last = true ∧ okL (nxD n last) = true ∧ okL (all ++ nwD n all last) = true ∧ pipeF f n (all ++ nwD n all last) (nwD n all last) = some A := by
  unfold pipeF at h
  rw [if_neg hl] at h
  by_cases e : (okL all && okL last && okL (last.flatMap (movesB n)) && okL (all ++ (ordD (last.flatMap (movesB n))).filter fun d => decide (d ∉ all))) = true
  · rw [if_pos e] at h
    simp only [Bool.and_eq_true] at e
    exact ⟨e.1.1.1, e.1.1.2, e.1.2, e.2, h⟩
  · rw [if_neg e] at h
    cases h

theorem nxD_snoc {n : Int} {last : List Drm} {k : Nat} (h : k < last.length) : nxD n (last.take (k + 1)) = nxD n (last.take k) ++ movesB n (last.getD k []) := by
  unfold nxD
  rw [takeD_snoc (d := ([] : Drm)) h, List.flatMap_append]
  simp
theorem nxD_le (n : Int) (last : List Drm) (k : Nat) : (nxD n (last.take k)).length ≤ (nxD n last).length := by
  unfold nxD
  conv => rhs; rw [← List.take_append_drop k last, List.flatMap_append, List.length_append]
  exact Nat.le_add_right _ _

set_option maxHeartbeats 2000000 in
theorem pipeDreams_any (v : Value) (xs : List Int) (A : List Drm) (w : World) (h : Ints w v xs) (hp : permOk xs = true) (h4 : xs.length ≤ 4) (hA : pipesB xs = some A) (hAo : okL A = true) :
    Calls Try.prog 9 #[v] w fun e w' => ∃ u, e = .returned (.tuple #[u, .bool true]) ∧ RdD w' u (ordD A) ∧ Below w.heap.size w w' := by
  have hI := implIsPerm_any v xs w h
  rw [hp] at hI
  have HI := Lib.hid hI
  have HBt := Lib.hid (fun u (hu : Below w.heap.size w u) => bottomDream_any v xs u (h.below hu) hp h4)
  obtain ⟨p, cap, rfl, ⟨hx1, hx2⟩, hxc⟩ := h
  unfold maxLen at hx2
  obtain ⟨N, hN⟩ : ∃ N, N = xs.length := ⟨_, rfl⟩
  have HN := Lib.hid hN
  rw [← hN] at hx1 h4 HI HBt ⊢
  have HA := Lib.hid hA
  have HAo := Lib.hid hAo
  have H6 := Lib.hid (eq_false (show ¬ (6 : Int) < (N : Int) by omega))
  clear hxc hI hN hA hAo
  go_enter Try.func9, Try.ntmps9
  go_wp2_with fail
  refine HI.out.mono ?_
  rintro e w1 ⟨rfl, hb1⟩
  have HB1 := Lib.hid hb1
  have h6' := H6.out
  clear hb1
  go_wp2_with fail
  refine (HBt.out w1 HB1.out).mono ?_
  rintro e w2 ⟨ub, rfl, hub, hb2⟩
  obtain ⟨pb, lb, kb, rfl⟩ := hub.rd.sh
  have Hub := Lib.hid hub
  have HB2 := Lib.hid (HB1.out.trans (hb2.mono HB1.out.size))
  have hs1 := HB1.out.size
  have hs2 := hb2.size
  clear hub hb2
  obtain ⟨o1, ho1⟩ : ∃ o : Obj, o = .cells #[.slice pb lb kb] 27 := ⟨_, rfl⟩
  obtain ⟨o2, ho2⟩ : ∃ o : Obj, o = .cells #[.slice (some ⟨w2.heap.size, 0, none⟩) 1 1] 29 := ⟨_, rfl⟩
  have Ho1 := Lib.hid ho1
  have Ho2 := Lib.hid ho2
  obtain ⟨bx, hbx⟩ : ∃ b, b = w2.heap.size + 1 := ⟨_, rfl⟩
  have hown : OwnD ((w2.alloc o1).alloc o2) w.heap.size (w2.heap.size + 1) (.slice (some ⟨w2.heap.size, 0, none⟩) 1 1) [botL xs] := by
    refine ⟨fun _ => .slice pb lb kb, OwnF.mk' (F := fun _ => .slice pb lb kb) ⟨#[.slice pb lb kb], ?_, rfl, fun i hi => ?_⟩ (by omega) (by omega) (Nat.le_refl _) (by unfold maxLen; omega) (fun j hj => rfl), fun i hi => ?_⟩
    · rw [heap_alloc_low _ _ (by simp), ho1]
      exact heap_alloc_top _ _
    · obtain rfl : i = 0 := by omega
      rfl
    · obtain rfl : i = 0 := by simpa using hi
      exact (Hub.out.below (below_alloc2 w2 o1 o2)).mono (by omega) (by omega)
  have hblk : ((w2.alloc o1).alloc o2).heap[bx]? = some (.cells #[.slice (some ⟨w2.heap.size, 0, none⟩) 1 1] 29 (0, 0)) := by
    rw [hbx, heap_alloc_at _ _ (by simp), ho2]
  have HO := Lib.hid hown
  have HBk := Lib.hid hblk
  have HB3 := Lib.hid (HB2.out.trans ((below_alloc2 w2 o1 o2).mono HB2.out.size))
  have Hbx := Lib.hid hbx
  have HpF : Hid (pipeF 20 (N : Int) [botL xs] [botL xs] = some A) := by
    have := HA.out
    unfold pipesB at this
    rw [← HN.out] at this
    exact this
  clear hown hblk ho1 ho2 hbx
  go_wp2_with fail
  rw [← Ho1.out, ← Ho2.out, ← Hbx.out]
  go_loopg [5, 6, 8, 27] 20 (fun g s5 s6 s8 s27 wr => ∃ (all last : List Drm) (va : Value), Hid (RdD wr s5 last) ∧ Hid (wr.heap[bx]? = some (.cells #[va] 29 (0, 0))) ∧ Hid (OwnD wr w.heap.size wr.heap.size va all) ∧ Hid (pipeF g (N : Int) all last = some A) ∧ Hid (Below w.heap.size w wr) ∧ w.heap.size ≤ wr.heap.size)
  case atStart => exact ⟨[botL xs], [botL xs], _, HO.out.rd, HBk.out, HO.out.mono (Nat.le_refl _) (by simp), HpF.out, HB3.out, by simp; omega⟩
  case round =>
    obtain ⟨all, last, va, hrd, hbk, hown, hpf, hbl, hsz⟩ := hrel
    obtain ⟨wo, rfl⟩ : ∃ x : World, x = wr := ⟨_, rfl⟩
    rcases Nat.eq_zero_or_pos gk with h0 | h0
    · subst h0
      exact (pipeF_zero hpf.out).elim
    · obtain ⟨f, rfl⟩ : ∃ f, gk = f + 1 := ⟨gk - 1, by omega⟩
      obtain ⟨fl, ⟨pl, kl, rfl, ⟨hl1, hl2⟩, hlc⟩, hlr⟩ := hrd.out
      obtain ⟨pv, kv, rfl, _, _⟩ := hown.out.shape
      obtain ⟨lv, hlv⟩ : ∃ l, l = all.length := ⟨_, rfl⟩
      rw [← hlv] at hbk
      have hown' := hown.out
      rw [← hlv] at hown'
      have Hown := Lib.hid hown'
      have hb := cell_of_blk hbk.out (j := 0) rfl
      have Hlv := Lib.hid hlv
      clear hown hown' hlv
      by_cases hl0 : last = []
      · subst hl0
        have hA := pipeF_end hpf.out
        have Hi := Lib.hid (inOrder_any _ _ _ _ wo Hown.out (by rw [← hA]; exact HAo.out))
        have HeA := Lib.hid hA
        clear hlc hlr hA
        go_wp2_with fail
        refine Hi.out.mono ?_
        rintro e w5 ⟨u, rfl, hd5, hf5⟩
        obtain ⟨p5, l5, k5, rfl⟩ : ∃ p l k, u = .slice p l k := by
          obtain ⟨p, k, e, _⟩ := hd5.shape
          exact ⟨p, _, k, e⟩
        have Hd5 := Lib.hid hd5
        have Hf5 := Lib.hid hf5
        clear hd5 hf5
        go_wp2_with fail
        go_ret2
        exact ⟨_, rfl, by rw [HeA.out]; exact Hd5.out.rd, hbl.out.trans (Hf5.out.below (Nat.le_refl _) hsz)⟩
      · obtain ⟨s1, s2, s3, s4, hstep⟩ := pipeF_step hl0 hpf.out
        have S1 := Lib.hid s1
        have S2 := Lib.hid s2
        have S3 := Lib.hid s3
        have S4 := Lib.hid s4
        have HS := Lib.hid hstep
        have hlen := (okL_at s2).1
        obtain ⟨M, hM⟩ : ∃ M, M = last.length := ⟨_, rfl⟩
        have HM := Lib.hid hM
        have Hlr := Lib.hid hlr
        have Hlc := Lib.hid hlc
        rw [← hM] at hl1 hlen Hlr Hlc
        have hM0 : 0 < M := by
          rw [hM]
          exact List.length_pos_iff.2 hl0
        rw [← hM]
        have hMz : (0 : Int) < (M : Int) := by omega
        unfold maxLen at hl2
        clear s1 s2 s3 s4 hstep hl0 hlr hlc hM
        go_wp2_with fail
        go_loopg [6, 8, 27] M (fun g s6 s8 s27 wz => ∃ k : Nat, k ≤ M ∧ g = M - k ∧ s27 = .int .i64 (k : Int) ∧ Hid (Below wo.heap.size wo wz) ∧ wo.heap.size + 1 ≤ wz.heap.size ∧ Hid (OwnD wz wo.heap.size wz.heap.size s6 (nxD (N : Int) (last.take k))))
        case atStart => exact ⟨0, Nat.zero_le _, rfl, rfl, below_alloc _ _, by simp, (OwnD.made0 wo).mono (Nat.le_refl _) (by simp)⟩
        case round =>
          obtain ⟨k, hk, rfl, rfl, hbz, hsz2, hnx⟩ := hrel
          by_cases hlt : k < M
          · obtain ⟨bl, offl, rfl, hc⟩ := Hlc.out hM0
            have c0 := hc k hlt
            have c1 : wr.cell? _ = some _ := hbz.out.cell (World.block_lt_of_cell? wo _ c0) ▸ c0
            have hd := (Hlr.out k hlt).below hbz.out
            have LM := Lib.hid (ladderMoves_any (N : Int) (fl k) (last.getD k []) wr hd (okL_getD S2.out k) (by omega) (by omega))
            have hsn := Lib.hid (nxD_snoc (n := (N : Int)) (last := last) (k := k) (by rw [← HM.out]; exact hlt))
            have hle := Nat.le_trans (nxD_le (N : Int) last (k + 1)) (okL_at S3.out).1
            rw [hsn.out, List.length_append] at hle
            obtain ⟨pd, ld, kd, e1⟩ := hd.sh
            rw [e1] at c1 LM
            have hkz : (k : Int) < (M : Int) := by omega
            obtain ⟨p6, l6, k6, rfl⟩ : ∃ p l k, u6 = .slice p l k := by
              obtain ⟨p, k, e, _⟩ := hnx.out.shape
              exact ⟨p, _, k, e⟩
            obtain ⟨M1, hM1⟩ : ∃ m, m = (nxD (N : Int) (last.take k)).length := ⟨_, rfl⟩
            obtain ⟨M2, hM2⟩ : ∃ m, m = (movesB (N : Int) (last.getD k [])).length := ⟨_, rfl⟩
            rw [← hM1, ← hM2] at hle
            have HM1 := Lib.hid hM1
            have HM2 := Lib.hid hM2
            have Hb1' := Lib.hid (show M1 + M2 ≤ maxLen by unfold maxLen; omega)
            have Hb2' := Lib.hid (show (M1 + M2) * 24 ≤ 140737488355328 by omega)
            clear hc c0 hd e1 hM1 hM2 hle
            go_wp2_with fail
            refine LM.out.mono ?_
            rintro e w5 ⟨u, rfl, hou, hbu⟩
            obtain ⟨gu, u1, u2⟩ := hou
            obtain ⟨f6, g61, g62⟩ := hnx.out.below hbu
            rw [← HM1.out] at g61 g62
            rw [← HM2.out] at u1 u2
            have hs5 := hbu.size
            have G61 := Lib.hid g61
            have G62 := Lib.hid g62
            have U1 := Lib.hid u1
            have U2 := Lib.hid u2
            obtain ⟨pu, ku, rfl, _, _⟩ := u1.shape
            have Hbu := Lib.hid (hbz.out.trans (hbu.mono hbz.out.size))
            clear g61 g62 u1 u2 hbu
            go_wp2_with (at_builtin; go_must (refine wpList_append_F rfl (.tmp 31) (.tmp 35) 29 rfl 27 (.slice none 0 0) 24 Try.underlying29 info_slC rfl wo.heap.size wr.heap.size _ M1 f6 rfl G61.out (by omega) (by omega) _ M2 gu rfl U1.out.rd (fun j hj => (U2.out j hj).rd.one) Hb1'.out Hb2'.out ?_; intro v' w' ho' hg'))
            have hs7 := hg'.size
            go_roundg (M - (k + 1))
            case measure => omega
            case rel =>
              refine ⟨k + 1, by omega, rfl, by go_num, Hbu.out.trans (grownBy_below hg' G61.out.blocks (Nat.le_refl _) (by omega)), by omega, ?_⟩
              show OwnD w' _ _ v' (nxD (N : Int) (last.take (k + 1)))
              rw [hsn.out]
              exact OwnD.join (mid := wr.heap.size) (lo2 := wr.heap.size) (hi2 := w5.heap.size) (f := f6) (g := gu) (by rw [← HM1.out]; exact G61.out) (by rw [← HM1.out]; exact G62.out) (by rw [← HM2.out]; exact U2.out) (by omega) (by omega) (by omega) hg' (by rw [← HM1.out, ← HM2.out]; exact ho')
          · obtain rfl : k = M := by omega
            have hkz : ¬ ((k : Int) < (k : Int)) := by omega
            have hnx' := hnx.out
            rw [show last.take k = last from List.take_of_length_le (by rw [← HM.out]; exact Nat.le_refl _)] at hnx'
            have HI5 := Lib.hid (inOrder_any _ _ _ _ wr hnx' S3.out)
            obtain ⟨p6, l6, k6, rfl⟩ : ∃ p l k, u6 = .slice p l k := by
              obtain ⟨p, k, e, _⟩ := hnx'.shape
              exact ⟨p, _, k, e⟩
            clear hnx'
            have hol : (ordD (nxD (N : Int) last)).length ≤ 1000 := by
              have h1 := cmpct_le (srtD (nxD (N : Int) last))
              rw [srtD_eq, (Cmp.srt_perm (cmp := cmpD) (nxD (N : Int) last)).length_eq, ← srtD_eq] at h1
              have := (okL_at S3.out).1
              unfold ordD
              omega
            have Hol := Lib.hid hol
            have hbx1 := blk_lt hbk.out
            have hall := Hown.out.below hbz.out
            have hbkr : wr.heap[bx]? = _ := (hbz.out.block bx hbx1).trans hbk.out
            clear hol
            go_wp2_with fail
            refine HI5.out.mono ?_
            rintro e w5 ⟨u, rfl, hd5, hf5⟩
            have hall5 := hall.frm hf5 (Or.inl (Nat.le_refl _))
            have hbk5 : w5.heap[bx]? = _ := (hf5.block bx (blk_lt hbkr) (Or.inl hbx1)).trans hbkr
            have HD5 := Lib.hid (deleteFA_any u _ _ all bx w.heap.size wo.heap.size wr.heap.size w5 hd5 Hol.out (cell_of_blk hbk5 (j := 0) rfl) hbx1 hall5)
            obtain ⟨p5, l5, k5, rfl⟩ : ∃ p l k, u = .slice p l k := by
              obtain ⟨p, k, e, _⟩ := hd5.shape
              exact ⟨p, _, k, e⟩
            have Hf5 := Lib.hid hf5
            have Hall5 := Lib.hid hall5
            have Hbk5 := Lib.hid hbk5
            clear hd5 hf5 hall hall5 hbkr hbk5
            go_wp2_with fail
            refine HD5.out.mono ?_
            rintro e w6 ⟨u2, rfl, hd6, hf6⟩
            have hd6' : OwnD w6 wo.heap.size wr.heap.size u2 (nwD (N : Int) all last) := hd6
            have Hall6 := Lib.hid (Hall5.out.frm hf6 (Or.inl (Nat.le_refl _)))
            have hbk6 : w6.heap[bx]? = _ := (hf6.block bx (blk_lt Hbk5.out) (Or.inl hbx1)).trans Hbk5.out
            have hb6 := cell_of_blk hbk6 (j := 0) rfl
            have Hbk6 := Lib.hid hbk6
            have Hd6 := Lib.hid hd6'
            have Hf6 := Lib.hid (Hf5.out.trans hf6)
            have hs6 := (Hf5.out.trans hf6).size
            obtain ⟨p2, l2, k2, rfl⟩ : ∃ p l k, u2 = .slice p l k := by
              obtain ⟨p, k, e, _⟩ := hd6.shape
              exact ⟨p, _, k, e⟩
            clear hd6 hd6' hf6 hbk6
            obtain ⟨fa, a1, a2⟩ := Hall6.out
            rw [← Hlv.out] at a1 a2
            have hS4 := (okL_at S4.out).1
            rw [List.length_append, ← Hlv.out] at hS4
            have HCl := Lib.hid (cloneD_any _ lv fa w6 a1.rd (fun j hj => (a2 j hj).rd.one) (by omega))
            have A2 := Lib.hid a2
            obtain ⟨m2, hm2⟩ : ∃ m, m = (nwD (N : Int) all last).length := ⟨_, rfl⟩
            rw [← hm2] at hS4
            have Hm2 := Lib.hid hm2
            have HS4 := Lib.hid hS4
            clear a1 a2 hm2 hS4
            go_wp2_with fail
            refine HCl.out.mono ?_
            rintro e w7 ⟨u3, rfl, ho3, hb7⟩
            obtain ⟨p3, k3, rfl, _, _⟩ := ho3.shape
            obtain ⟨g2, n1, n2⟩ := Hd6.out.below hb7
            rw [← Hm2.out] at n1 n2
            obtain ⟨pn, kn, en, _, _⟩ := n1.shape
            injection en with en1 en2 en3
            subst en1 en2 en3
            have N1 := Lib.hid n1
            have N2 := Lib.hid n2
            have O3 := Lib.hid ho3
            have A7 := Lib.hid (fun i hi => (A2.out i hi).below hb7)
            have hbk7 : w7.heap[bx]? = _ := (hb7.block bx (blk_lt Hbk6.out)).trans Hbk6.out
            have Hbk7 := Lib.hid hbk7
            have hs7 := hb7.size
            have Hb7 := Lib.hid hb7
            have hS4' := HS4.out
            have Hc1 := Lib.hid (show lv + l2 ≤ maxLen by unfold maxLen; omega)
            have Hc2 := Lib.hid (show (lv + l2) * 24 ≤ 140737488355328 by omega)
            clear n1 n2 ho3 hb7 hbk7 hS4'
            obtain ⟨T, hT⟩ : ∃ T, T = lv + l2 := ⟨_, rfl⟩
            have hT4 : T ≤ 400 := by rw [hT]; exact HS4.out
            have HT := Lib.hid hT
            rw [← hT] at Hc1 Hc2
            have h400 : (400 : Int) < (T : Int) ↔ False := ⟨fun h => by omega, False.elim⟩
            have h400' := Lib.hid (eq_false (show ¬ (400 : Int) < (T : Int) by omega))
            clear h400 hT
            go_wp2_with (at_builtin; go_must (refine wpList_append_F rfl (.tmp 43) (.tmp 44) 29 rfl 27 (.slice none 0 0) 24 Try.underlying29 info_slC rfl w6.heap.size w7.heap.size _ lv fa rfl O3.out hs7 (Nat.le_refl _) _ l2 g2 rfl N1.out.rd (fun j hj => (N2.out j hj).rd.one) (by rw [← HT.out]; exact Hc1.out) (by rw [← HT.out]; exact Hc2.out) ?_; intro v' w' ho' hg'; rw [← HT.out] at ho'; obtain ⟨p8, k8, rfl, hk8, hm8⟩ := ho'.shape; have hbe := grownBy_below hg' O3.out.blocks (Nat.le_refl _) hs7; have hbk8 : w'.heap[bx]? = _ := (hbe.block bx (by omega)).trans Hbk7.out; have hb8 := cell_of_blk hbk8 (j := 0) rfl; have fr8 := free_of_blk hbk8 0; have Ho8 := Lib.hid ho'; have Hg8 := Lib.hid hg'; have Hbe := Lib.hid hbe; have Hbk8 := Lib.hid hbk8; have hs8 := hg'.size; clear ho' hg' hbe hbk8))
            go_roundg f
            case measure => omega
            case rel =>
              have hB9 : w'.heap.size ≤ (w'.setCell ⟨bx, 0, none⟩ (.slice p8 T k8)).heap.size := by rw [size_setCell]; exact Nat.le_refl _
              have hnw : OwnD w7 wo.heap.size wr.heap.size (.slice p2 l2 k2) (nwD (N : Int) all last) := ⟨g2, by rw [← Hm2.out]; exact N1.out, by rw [← Hm2.out]; exact N2.out⟩
              have hnw8 : OwnD w' wo.heap.size wr.heap.size (.slice p2 l2 k2) (nwD (N : Int) all last) := hnw.keep fun b _ h2 _ => Hbe.out.block b (by omega)
              have hall8 : OwnD w' w.heap.size w'.heap.size (.slice p8 T k8) (all ++ nwD (N : Int) all last) := by
                refine OwnD.join (w := w7) (v := .slice p3 lv k3) (mid := w7.heap.size) (lo2 := wo.heap.size) (hi2 := wr.heap.size) (f := fa) (g := g2) (by rw [← Hlv.out]; exact O3.out.mono (by omega) (Nat.le_refl _)) (by rw [← Hlv.out]; exact fun i hi => (A7.out i hi).mono (Nat.le_refl _) (by omega)) (by rw [← Hm2.out]; exact N2.out) hsz (by omega) (by omega) Hg8.out ?_
                rw [← Hlv.out, ← Hm2.out, ← HT.out]
                exact Ho8.out.mono (by omega) (Nat.le_refl _)
              have hk8' : ∃ c fz, w'.heap[(⟨bx, 0, none⟩ : Addr).block]? = some (.cells c 29 fz) := ⟨_, _, Hbk8.out⟩
              have hba : Below w.heap.size w wr := hbl.out.trans (hbz.out.mono hsz)
              have hbb : Below w.heap.size wr w6 := Hf6.out.below hsz (by omega)
              have hbc : Below w.heap.size w6 w' := (Hb7.out.mono (by omega)).trans (Hbe.out.mono (by omega))
              refine ⟨all ++ nwD (N : Int) all last, nwD (N : Int) all last, .slice p8 T k8, ?_, ?_, ?_, HS.out, ?_, ?_⟩
              · exact (hnw8.setOther hk8' (by decide) (by decide) _).rd
              · exact heap_setCell_at Hbk8.out 0 _
              · have h9 := hall8.setOther hk8' (by decide) (by decide) (.slice p8 T k8)
                exact h9.mono (Nat.le_refl _) hB9
              · exact ((hba.trans hbb).trans hbc).setCell (by show w.heap.size ≤ bx; rw [Hbx.out]; omega) _
              · rw [size_setCell]; omega

end Go.Proofs.Ytcbjcmhnlakgbaa

namespace Go.Proofs.Ytcbjcmhnlakgbaa
set_option linter.all false
open Go.RowKit

set_option maxRecDepth 100000 in
set_option maxHeartbeats 400000 in
theorem big_any (p : Option Addr) (n cap : Nat) (w : World) (hn : n ≤ maxLen) :
    Calls Try.prog 4 #[.slice p n cap] w fun e w' => e = .returned (.bool (decide (1048576 < n))) ∧ w = w' := by
  unfold maxLen at hn
  go_enter Try.func4, Try.ntmps4
  by_cases h : 1048576 < n
  · have h2 : (1048576 : Int) < (n : Int) := by omega
    go_wp2
    go_ret
    exact ⟨ret_bool (by simp [h]), rfl⟩
  · have h2 : ¬ (1048576 : Int) < (n : Int) := by omega
    go_wp2
    go_ret
    exact ⟨ret_bool (by simp [h]), rfl⟩

section
open Go.ChangeShapes Go.WideShapes Go.RowKit Go.Deep Go.WideElems Go.Maps
/-- bytes that came in -/
theorem trod_byts {H : Type} {enc : TypeId × Value → H} {P : Program} {W : World} {m : Nat} {t e : TypeId} {a : Option Addr} {l c : Nat} {y : DataW H × List MemPlace}
    (ht : P.underlying t = some (.slice e)) (he : P.underlying e = some (.int .u8)) (hc : P.cellsOf e = 1)
    (h : DataW.trod enc P W 0 (fun _ => true) true m t [.slice a l c] = some y) : l ≤ maxLen ∧ Byts W (.slice a l c) l := by
  rcases open_ints ht he hc h with ⟨hcs, _⟩ | ⟨x, l', c', zs, hcs, _, hl, hm, hz, _, hcell, _⟩
  · injection hcs with hcs
    injection hcs with h1 h2 h3
    subst h1 h2 h3
    exact ⟨Nat.zero_le _, fun _ => 0, none, 0, rfl, ⟨Nat.le_refl _, Nat.zero_le _⟩, fun h => absurd h (Nat.lt_irrefl _)⟩
  · injection hcs with hcs
    injection hcs with h1 h2 h3
    subst h1 h2 h3
    refine ⟨by omega, fun j => zs.getD j 0, some x, c, rfl, ⟨hl, hm⟩, fun h0 => ?_⟩
    have hz' : zs.length = c := by simpa using hz
    have h0' := hcell 0 (by omega)
    obtain ⟨b, off, spot⟩ := x
    have hs : spot = none := by
      cases spot with
      | none => rfl
      | some s => simp [Addr.add, World.cell?] at h0'; split at h0' <;> simp_all
    subst hs
    refine ⟨b, off, rfl, fun j hj => ?_⟩
    have hadd : (⟨b, off, none⟩ : Addr).add j = ⟨b, off + j, none⟩ := by unfold Addr.add; split <;> simp_all
    rw [← hadd]
    exact hcell j (by omega)
end

end Go.Proofs.Ytcbjcmhnlakgbaa

namespace Go.Proofs.Ytcbjcmhnlakgbaa
set_option linter.all false
set_option maxRecDepth 100000
open Go.RowKit

theorem growF_zero {n : Int} {l A : List Drm} {i : Nat} (h : growF 0 n l i = some A) : False := by cases h
theorem growF_step {f : Nat} {n : Int} {l A : List Drm} {i : Nat} (h : growF (f + 1) n l i = some A) :
    okL l = true ∧ okL (movesB n (l.getD i [])) = true ∧ ((i < l.length ∧ l.length ≤ 400) → growF f n (putDs l (movesB n (l.getD i []))) (i + 1) = some A) ∧ (¬ (i < l.length ∧ l.length ≤ 400) → A = l) := by
  unfold growF at h
  by_cases e : (okL l && okL (movesB n (l.getD i []))) = true
  · rw [if_pos e] at h
    rw [Bool.and_eq_true] at e
    refine ⟨e.1, e.2, fun c => ?_, fun c => ?_⟩
    · rw [if_pos c] at h; exact h
    · rw [if_neg c] at h; exact (Option.some.inj h).symm
  · rw [if_neg e] at h
    cases h

theorem putDs_snoc {ls more : List Drm} {j : Nat} (h : j < more.length) : putDs ls (more.take (j + 1)) = if more.getD j [] ∈ putDs ls (more.take j) then putDs ls (more.take j) else putDs ls (more.take j) ++ [more.getD j []] := by
  unfold putDs
  rw [takeD_snoc (d := ([] : Drm)) h, List.foldl_append]
  rfl
theorem putDs_len (ls : List Drm) : ∀ more : List Drm, (putDs ls more).length ≤ ls.length + more.length := fun more => by
  unfold putDs
  induction more generalizing ls with
  | nil => simp
  | cons d more ih =>
    rw [List.foldl_cons]
    have h1 := ih (putD ls d)
    have h2 : (putD ls d).length ≤ ls.length + 1 := by
      unfold putD
      split
      · omega
      · simp
    simp only [List.length_cons]
    omega

set_option maxHeartbeats 4000000 in
theorem lawFnLadders (p : Option Addr) (l cap : Nat) (w : World) (hl : l ≤ maxLen) (h : Byts w (.slice p l cap) l) :
    Calls Try.prog 3 #[.slice p l cap] w fun e w' => e = .returned (.bool true) ∧ Below w.heap.size w w' := by
  have Hl := Lib.hid hl
  have Hh := Lib.hid h
  clear hl h
  go_enter Try.func3, Try.ntmps3
  go_wp2_with fail
  refine (big_any p l cap _ Hl.out).mono ?_
  rintro e w' ⟨rfl, rfl⟩
  by_cases hb : 1048576 < l
  · have e1 : decide (1048576 < l) = true := by simp [hb]
    rw [e1]
    go_wp2_with fail
    go_ret
    exact ⟨rfl, Below.refl _ _⟩
  · have e1 : decide (1048576 < l) = false := by simp [hb]
    rw [e1]
    clear e1 hb
    go_wp2_with fail
    refine (DrawSmallPerms_any _ l _ Hh.out).mono ?_
    rintro e w1 ⟨u1, u2, u3, xs, rfl, hx, hp, h2, h4, ⟨p2, n2, c2, rfl⟩, ⟨p3, n3, c3, rfl⟩, hb1⟩
    obtain ⟨L, A, hL, hA, hLo, hAo, hbo, hlen, hin⟩ := lad_law hp h4
    have Hx := Lib.hid hx
    have HB1 := Lib.hid hb1
    have HBt := Lib.hid (bottomDream_any u1 xs w1 hx hp h4)
    have HPd := Lib.hid (fun u (hu : Below w1.heap.size w1 u) => pipeDreams_any u1 xs A u (hx.below hu) hp h4 hA hAo)
    obtain ⟨p1, k1, rfl, _⟩ : ∃ p k, u1 = .slice p xs.length k ∧ True := by
      obtain ⟨p, k, e, _⟩ := hx
      exact ⟨p, k, e, trivial⟩
    obtain ⟨N, hN⟩ : ∃ N, N = xs.length := ⟨_, rfl⟩
    have HN := Lib.hid hN
    have HL := Lib.hid hL
    have HLo := Lib.hid hLo
    have Hlen := Lib.hid hlen
    have Hin := Lib.hid hin
    rw [← hN] at HBt HPd h2 h4 ⊢
    clear hx hp hb1 hL hA hLo hAo hbo hlen hin hN
    go_wp2_with fail
    refine HBt.out.mono ?_
    rintro e w2 ⟨ub, rfl, hub, hb2⟩
    obtain ⟨pb, lb, kb, rfl⟩ := hub.rd.sh
    have Hub := Lib.hid hub
    have HB2 := Lib.hid hb2
    have hs2 := hb2.size
    clear hub hb2
    obtain ⟨o1, ho1⟩ : ∃ o : Obj, o = .cells #[.slice pb lb kb] 27 := ⟨_, rfl⟩
    have Ho1 := Lib.hid ho1
    have hown : OwnD (w2.alloc o1) w1.heap.size (w2.heap.size + 1) (.slice (some ⟨w2.heap.size, 0, none⟩) 1 1) [botL xs] := by
      refine ⟨fun _ => .slice pb lb kb, OwnF.mk' (F := fun _ => .slice pb lb kb) ⟨#[.slice pb lb kb], ?_, rfl, fun i hi => ?_⟩ (by omega) (by omega) (Nat.le_refl _) (by unfold maxLen; omega) (fun j hj => rfl), fun i hi => ?_⟩
      · rw [ho1]
        exact heap_alloc_top _ _
      · obtain rfl : i = 0 := by omega
        rfl
      · obtain rfl : i = 0 := by simpa using hi
        exact (Hub.out.below (below_alloc w2 o1)).mono (by omega) (by omega)
    have HO := Lib.hid hown
    have HB3 := Lib.hid (HB2.out.trans ((below_alloc w2 o1).mono hs2))
    have HgF : Hid (growF 40 (N : Int) [botL xs] 0 = some L) := by
      have := HL.out
      unfold growB at this
      rw [← HN.out] at this
      exact this
    clear hown ho1
    go_wp2_with fail
    rw [← Ho1.out]
    go_loopg [7, 8, 9, 10] 40 (fun g s7 s8 s9 s10 wr => ∃ (ls : List Drm) (i : Nat), s8 = .int .i64 (i : Int) ∧ i ≤ 400 ∧ Hid (OwnD wr w1.heap.size wr.heap.size s7 ls) ∧ Hid (growF g (N : Int) ls i = some L) ∧ Hid (Below w1.heap.size w1 wr) ∧ w1.heap.size ≤ wr.heap.size)
    case atStart => exact ⟨[botL xs], 0, rfl, by omega, HO.out.mono (Nat.le_refl _) (by simp), HgF.out, HB3.out, by simp; omega⟩
    case round =>
      obtain ⟨ls, i, rfl, hi, hown, hg, hb, hsz⟩ := hrel
      obtain ⟨wo, rfl⟩ : ∃ x : World, x = wr := ⟨_, rfl⟩
      rcases Nat.eq_zero_or_pos gk with h0 | h0
      · subst h0
        exact (growF_zero hg.out).elim
      · obtain ⟨f, rfl⟩ : ∃ f, gk = f + 1 := ⟨gk - 1, by omega⟩
        obtain ⟨s1, s2, s3, s4⟩ := growF_step hg.out
        have hl4 := (okL_at s1).1
        obtain ⟨p7, k7, rfl, _, _⟩ := hown.out.shape
        obtain ⟨n7, hn7⟩ : ∃ n, n = ls.length := ⟨_, rfl⟩
        have Hn7 := Lib.hid hn7
        have hown' := hown.out
        rw [← hn7] at hown' hl4
        rw [← hn7]
        have Hown := Lib.hid hown'
        have S1 := Lib.hid s1
        have S2 := Lib.hid s2
        have S3 := Lib.hid s3
        have S4 := Lib.hid s4
        have h4z : (n7 : Int) ≤ 400 := by omega
        clear hown hown' s1 s2 s3 s4 hn7
        by_cases hc : i < n7
        · have hcz : (i : Int) < (n7 : Int) := by omega
          obtain ⟨F, g1, g2⟩ := Hown.out
          rw [← Hn7.out] at g1 g2
          obtain ⟨pq, cq, e, _, hcc⟩ := g1.rd
          injection e with e1 e2 e3
          subst e1
          obtain ⟨bq, offq, rfl, hcc2⟩ := hcc (by omega)
          have c1 := hcc2 i hc
          have hd := (g2 i hc).rd
          have LM := Lib.hid (ladderMoves_any (N : Int) (F i) (ls.getD i []) wo hd (okL_getD S1.out i) (by omega) (by omega))
          obtain ⟨pd, ld, kd, e1⟩ := hd.sh
          rw [e1] at c1 LM
          clear g1 g2 hcc hcc2 hd e1 e2 e3
          go_wp2_with fail
          refine LM.out.mono ?_
          rintro e w5 ⟨um, rfl, hm5, hb5⟩
          obtain ⟨pm, km, rfl, _, _⟩ := hm5.shape
          obtain ⟨M, hM⟩ : ∃ M, M = (movesB (N : Int) (ls.getD i [])).length := ⟨_, rfl⟩
          have HM := Lib.hid hM
          have hm5' := hm5
          rw [← hM] at hm5'
          rw [← hM]
          have Hm5 := Lib.hid hm5'
          have hM4 := (okL_at S2.out).1
          rw [← hM] at hM4
          have hs5 := hb5.size
          have Hb5 := Lib.hid (hb.out.trans (hb5.mono hsz))
          have Hown5 := Lib.hid ((Hown.out.below hb5).mono (Nat.le_refl _) hs5)
          have Hblk := Lib.hid Hown.out.blocks
          clear hm5 hm5' hM hb5
          go_wp2_with fail
          go_loopg [7, 10] M (fun g s7 s10 wz => ∃ j : Nat, j ≤ M ∧ g = M - j ∧ s10 = .int .i64 (j : Int) ∧ Hid (OwnD wz w1.heap.size wz.heap.size s7 (putDs ls ((movesB (N : Int) (ls.getD i [])).take j))) ∧ Hid (OwnD wz wo.heap.size w5.heap.size (.slice pm M km) (movesB (N : Int) (ls.getD i []))) ∧ Hid (Below w1.heap.size w1 wz) ∧ w5.heap.size ≤ wz.heap.size ∧ Hid (∀ b, s7.ownBlock = some b → b < wo.heap.size ∨ w5.heap.size ≤ b))
          case atStart => exact ⟨0, Nat.zero_le _, rfl, rfl, Hown5.out, Hm5.out, Hb5.out, Nat.le_refl _, fun b hb => Or.inl (Hblk.out b hb).2⟩
          case round =>
            obtain ⟨j, hj, rfl, rfl, hoz, hmz, hbz, hsz2, hfar⟩ := hrel
            by_cases hjl : j < M
            · have hjm : j < (movesB (N : Int) (ls.getD i [])).length := by rw [← HM.out]; exact hjl
              obtain ⟨gm, m1, m2⟩ := hmz.out
              have hdj := (m2 j hjm).rd
              obtain ⟨pq2, cq2, e, _, hcc⟩ := m1.rd
              injection e with e1 e2 e3
              subst e1
              obtain ⟨bm, offm, rfl, hcc2⟩ := hcc (by omega)
              have c1 := hcc2 j hjm
              have HH := Lib.hid (hasCells_any u7 (gm j) _ _ wr hoz.out.rd hdj)
              have Hdj := Lib.hid hdj
              have Hmj := Lib.hid (m2 j hjm)
              have Hsn := Lib.hid (putDs_snoc (ls := ls) hjm)
              have hle := putDs_len ls ((movesB (N : Int) (ls.getD i [])).take j)
              rw [List.length_take, Nat.min_eq_left (by omega), ← Hn7.out] at hle
              obtain ⟨p9, l9, k9, rfl⟩ : ∃ p l k, u7 = .slice p l k := by
                obtain ⟨p, k, e, _⟩ := hoz.out.shape
                exact ⟨p, _, k, e⟩
              obtain ⟨K, hK⟩ : ∃ K, K = putDs ls ((movesB (N : Int) (ls.getD i [])).take j) := ⟨_, rfl⟩
              have HK := Lib.hid hK
              rw [← hK] at HH Hsn hle
              obtain ⟨D, hD⟩ : ∃ D, D = (movesB (N : Int) (ls.getD i [])).getD j [] := ⟨_, rfl⟩
              have HD := Lib.hid hD
              rw [← hD] at HH Hsn Hdj Hmj
              obtain ⟨xj, hxj⟩ : ∃ x, x = gm j := ⟨_, rfl⟩
              rw [← hxj] at c1 HH Hdj Hmj
              obtain ⟨pj, lj, kj, rfl⟩ := Hdj.out.sh
              have hjz : (j : Int) < (M : Int) := by omega
              clear m1 m2 hdj hcc hcc2 hK hD hxj e2 e3
              by_cases e : D ∈ K
              · rw [decide_eq_true e] at HH
                have Hsn2 := Lib.hid (Hsn.out.trans (if_pos e))
                clear e
                go_wp2_with fail
                refine HH.out.mono ?_
                rintro e w6 ⟨rfl, hq6⟩
                have Hq6 := Lib.hid hq6
                have hz6 : w6.heap.size = wr.heap.size := hq6.size
                clear hq6
                go_wp2_with fail
                go_roundg (M - (j + 1))
                case measure => omega
                case rel =>
                  refine ⟨j + 1, by omega, rfl, by go_num, ?_, hmz.out.below (Hq6.out.below _), hbz.out.trans (Hq6.out.below _), by omega, hfar.out⟩
                  show OwnD w6 _ _ _ (putDs ls _)
                  rw [Hsn2.out, HK.out, hz6]
                  exact hoz.out.below (Hq6.out.below _)
              · rw [decide_eq_false e] at HH
                have Hsn2 := Lib.hid (Hsn.out.trans (if_neg e))
                have hoz' := hoz.out
                rw [← HK.out] at hoz'
                obtain ⟨f9, g91, g92⟩ := hoz'
                have hK9 : l9 = K.length := by
                  obtain ⟨p, k, e, _⟩ := g91.shape
                  injection e
                have Hb1' := Lib.hid (show K.length + 1 ≤ maxLen by unfold maxLen; omega)
                have Hb2' := Lib.hid (show (K.length + 1) * 24 ≤ 140737488355328 by omega)
                have HK9 := Lib.hid hK9
                have G91 := Lib.hid g91
                have G92 := Lib.hid g92
                clear e g91 g92 hK9
                go_wp2_with fail
                refine HH.out.mono ?_
                rintro e w6 ⟨rfl, hq6⟩
                have Hq6 := Lib.hid hq6
                have hz6 : w6.heap.size = wr.heap.size := hq6.size
                have c6 := hq6.cell c1
                clear hq6
                go_wp2_with (at_builtin; go_must (refine wpList_append_G rfl (.tmp 57) (.tmp 62) 29 rfl 27 (.slice none 0 0) 24 Try.underlying29 info_slC rfl w1.heap.size wr.heap.size _ K.length f9 rfl ((G91.out.below (Hq6.out.below _)).below (below_alloc w6 _)) (by simp; omega) (by simp; omega) _ _ _ rfl (rd_one _ _ _ hz6.symm) (fun j _ => rfl) Hb1'.out Hb2'.out ?_; intro v' w' ho' hg' hf'))
                go_roundg (M - (j + 1))
                case measure => omega
                case rel =>
                  have hs8 := hg'.size
                  simp only [size_alloc] at hs8
                  have hb6 : Below wr.heap.size wr (w6.alloc (.cells #[.slice pj lj kj] 27)) := (Hq6.out.below _).trans ((below_alloc w6 _).mono (by omega))
                  refine ⟨j + 1, by omega, rfl, by go_num, ?_, ?_, ?_, by omega, ?_⟩
                  · show OwnD w' _ _ v' (putDs ls _)
                    rw [Hsn2.out]
                    refine OwnD.join (w := w6.alloc (.cells #[.slice pj lj kj] 27)) (v := .slice p9 l9 k9) (mid := wr.heap.size) (lo2 := wo.heap.size) (hi2 := w5.heap.size) (f := f9) (g := fun _ => .slice pj lj kj) (G91.out.below hb6) (fun i hi => (G92.out i hi).below hb6) ?_ hsz (by omega) (by omega) hg' ho'
                    intro i hi
                    obtain rfl : i = 0 := by simpa using hi
                    exact Hmj.out.below hb6
                  · exact (hmz.out.below hb6).keep fun b h1 h2 h3 => hg'.block b h3 fun e => by
                      have := hfar.out b e.symm
                      omega
                  · exact hbz.out.trans ((hb6.mono (by omega)).trans (grownBy_below hg' G91.out.blocks (Nat.le_refl _) (by simp; omega)))
                  · intro b hb'
                    rcases hf' b hb' with h | h
                    · exact hfar.out b h
                    · simp only [size_alloc] at h
                      right
                      omega
            · have hjz : ¬ ((j : Int) < (M : Int)) := by omega
              have hjz2 : j = M := by omega
              have Hall := Lib.hid (show (movesB (N : Int) (ls.getD i [])).take j = movesB (N : Int) (ls.getD i []) from List.take_of_length_le (by rw [hjz2, HM.out]; exact Nat.le_refl _))
              have HJ := Lib.hid hjz2
              clear hjz2 hjl
              go_wp2_with fail
              go_roundg f
              case measure => omega
              case rel =>
                refine ⟨putDs ls (movesB (N : Int) (ls.getD i [])), i + 1, by go_num, by omega, ?_, S3.out ⟨?_, ?_⟩, hbz.out, by omega⟩
                · have := hoz.out
                  rw [Hall.out] at this
                  exact this
                · have := Hn7.out
                  omega
                · have := Hn7.out
                  omega
        · have hcz : ¬ ((i : Int) < (n7 : Int)) := by omega
          have HLe := Lib.hid (S4.out (fun c => hc (by have := Hn7.out; omega)))
          have HPd2 := Lib.hid (HPd.out wo hb.out)
          clear hc HPd
          go_wp2_with fail
          refine HPd2.out.mono ?_
          rintro e wa ⟨ua, rfl, hua, hba⟩
          have HLs := Lib.hid (Hown.out.rd.below hba)
          have HBa := Lib.hid (hb.out.trans (hba.mono hsz))
          have hQ : (ordD A).length = n7 := by rw [Hlen.out, HLe.out, Hn7.out]
          obtain ⟨fa, fa1, fa2⟩ := hua
          obtain ⟨pa, ka, rfl, ⟨hx1, hx2⟩, hxc⟩ := fa1
          rw [hQ] at hx1 hxc ⊢
          unfold maxLen at hx2
          have Fa2 := Lib.hid fa2
          have Hxc := Lib.hid hxc
          have HQ := Lib.hid hQ
          clear fa2 hxc hQ hba
          go_wp2_with fail
          go_loopg [13] n7 (fun g s13 wz => ∃ j : Nat, j ≤ n7 ∧ g = n7 - j ∧ s13 = .int .i64 (j : Int) ∧ Hid (Qt wa wz))
          case atStart => exact ⟨0, Nat.zero_le _, rfl, rfl, Qt.refl _⟩
          case round =>
            obtain ⟨j, hj, rfl, rfl, hq⟩ := hrel
            by_cases hlt : j < n7
            · obtain ⟨g, off, rfl, hc⟩ := Hxc.out (by omega)
              have c1 := hq.out.cell (hc j hlt)
              have hjQ : j < (ordD A).length := by rw [HQ.out]; exact hlt
              have hcd := (Fa2.out j hjQ).qt hq.out
              have HH := hasCells_any _ (fa j) ls ((ordD A).getD j []) wr (HLs.out.qt hq.out) hcd
              have hmem : (ordD A).getD j [] ∈ ls := by
                have e : (ordD A).getD j [] = (ordD A)[j] := by simp [List.getD_eq_getElem?_getD, hjQ]
                rw [e, ← HLe.out]
                exact Hin.out _ (List.getElem_mem hjQ)
              rw [decide_eq_true hmem] at HH
              obtain ⟨pj, lj, kj, e1⟩ := hcd.sh
              rw [e1] at c1 HH
              have HH2 := Lib.hid HH
              clear hc e1 hmem hcd HH hjQ
              go_wp2_with fail
              refine HH2.out.mono ?_
              rintro e wb ⟨rfl, hqb⟩
              have Hqb := Lib.hid hqb
              clear hqb
              go_wp2_with fail
              go_roundg (n7 - (j + 1))
              case measure => omega
              case rel => exact ⟨j + 1, by omega, rfl, by go_num, hq.out.trans Hqb.out⟩
            · have hjz : ¬ ((j : Int) < (n7 : Int)) := by omega
              go_wp2_with fail
              go_ret
              exact ⟨rfl, HB1.out.trans ((HBa.out.trans (hq.out.below _)).mono HB1.out.size)⟩

end Go.Proofs.Ytcbjcmhnlakgbaa
