/-
  The law FnCauchy, walked.
-/
import Derived.Test.YtllmhicmikpfeaaJ12
import Derived.Test.YtllmhicmikpfeaaJ9
namespace Go.Proofs.Ytllmhicmikpfeaa
set_option linter.all false
set_option maxRecDepth 100000
open Go.RowKit Go.Maps Go.WideMaps

theorem permB_all : ∀ n : Fin 5, ((permsL n).all fun u => !decide (1 ≤ (n : Nat)) || (permOk u && decide (u.length = n))) = true := by decide +kernel
theorem perms_in {n : Nat} (h1 : 1 ≤ n) (h4 : n ≤ 4) {u : List Int} (hu : u ∈ permsL n) : P5 n u := by
  have := permB_all ⟨n, by omega⟩
  rw [List.all_eq_true] at this
  have := this u hu
  simp only [Bool.or_eq_true, Bool.and_eq_true, decide_eq_true_eq, Bool.not_eq_true', decide_eq_false_iff_not] at this
  rcases this with h | h
  · exact absurd h1 h
  · exact ⟨h.1, h.2, by omega⟩
def othB (w u : List Int) : Bool := permOk (invL u) && decide ((invL u).length = w.length) && permOk (othL w u) && decide ((othL w u).length = w.length) && permOk (invL (othL w u)) && decide ((invL (othL w u)).length = w.length)
theorem oth_all : pair4 othB = true := by decide +kernel
theorem oth_p5 {n : Nat} {w u : List Int} (hw : P5 n w) (hu : P5 n u) (h4 : n ≤ 4) : P5 n (invL u) ∧ P5 n (othL w u) ∧ P5 n (invL (othL w u)) := by
  have := pair4_at oth_all hw hu h4
  simp only [othB, Bool.and_eq_true, decide_eq_true_eq] at this
  rw [hw.len] at this
  obtain ⟨⟨⟨⟨⟨a, b⟩, c⟩, d⟩, e⟩, f⟩ := this
  exact ⟨⟨a, b, by omega⟩, ⟨c, d, by omega⟩, ⟨e, f, by omega⟩⟩
theorem perms_len4 {n : Nat} (h1 : 1 ≤ n) (h4 : n ≤ 4) : 1 ≤ (permsL n).length ∧ (permsL n).length ≤ 24 := by
  have : ∀ n : Fin 5, 1 ≤ (n : Nat) → 1 ≤ (permsL n).length ∧ (permsL n).length ≤ 24 := by decide +kernel
  exact this ⟨n, by omega⟩ h1
theorem lenP4 {n : Nat} {u : List Int} (h : P5 n u) : lenP u ≤ 10 := by
  have a := (wrd_at h).2.2.2
  have : all5 (fun u => decide (lenP u ≤ 10)) = true := by decide +kernel
  exact of_decide_eq_true (all5_at this h.ok (by have := h.len; have := h.le; omega))
theorem sum_take_i {g : List Int → Int} {rows : List (List Int)} {t : Nat} (h : t < rows.length) : ((rows.take (t + 1)).map g).sum = ((rows.take t).map g).sum + g (rows.getD t []) := by
  rw [List.take_succ_eq_append_getElem h, List.map_append, List.sum_append]
  simp [List.getD_eq_getElem?_getD, h]
theorem emod_rng (a : Int) : 0 ≤ a % 32003 ∧ a % 32003 ≤ 32002 := by omega
theorem RetTs.ev {w w' : World} {P : Pl} {v u : Value} {vs : List Int} (h : RetTs w P v w') (hu : Ints w' u vs) (h7 : vs.length = 7) :
    Calls Try.prog 12 #[v, u] w' fun e w2 => e = .returned (.int .i64 (Ev P (mono vs) % 32003)) ∧ Below w'.heap.size w' w2 := by
  obtain ⟨ts, h1, h2, h3, _⟩ := h
  rw [← h3]
  exact Evaluate_any _ _ ts vs w' h1.rd h2 hu h7
theorem RetTs.shape {w w' : World} {P : Pl} {v : Value} (h : RetTs w P v w') : ∃ p n k, v = .slice p n k := by
  obtain ⟨ts, h1, _⟩ := h
  obtain ⟨p, k, e, _⟩ := h1.shape
  exact ⟨p, _, k, e⟩
theorem RetTs.bel {w w' : World} {P : Pl} {v : Value} (h : RetTs w P v w') : Below w.heap.size w w' := by
  obtain ⟨ts, _, _, _, h4⟩ := h
  exact h4
theorem RetTs.below {w w' w2 : World} {P : Pl} {v : Value} (h : RetTs w P v w') (hb : Below w'.heap.size w' w2) : RetTs w P v w2 := by
  obtain ⟨ts, h1, h2, h3, h4⟩ := h
  exact ⟨ts, (h1.below hb).mono (Nat.le_refl _) hb.size, h2, h3, h4.trans (hb.mono h4.size)⟩

set_option maxHeartbeats 16000000 in
theorem lawFnCauchy (p : Option Addr) (l cap : Nat) (w : World) (hl : l ≤ maxLen) (h : Byts w (.slice p l cap) l) :
    Calls Try.prog 4 #[.slice p l cap] w fun e w' => e = .returned (.bool true) ∧ Below w.heap.size w w' := by
  have Hl := Lib.hid hl
  have Hh := Lib.hid h
  clear hl h
  go_enter Try.func4, Try.ntmps4
  go_wp2_with fail
  refine (big_any p l cap _ Hl.out).mono ?_
  rintro e w' ⟨rfl, rfl⟩
  by_cases hb : 1048576 < l
  · have e1 : decide (1048576 < l) = true := by simp [hb]
    rw [e1]
    go_wp2_with fail
    go_ret
    exact ⟨rfl, Below.refl _ _⟩
  have e1 : decide (1048576 < l) = false := by simp [hb]
  rw [e1]
  clear e1 hb
  go_wp2_with fail
  refine (DrawMoved_any _ l _ Hh.out).mono ?_
  rintro e w1 ⟨u1, u2, u3, ws, ys, n, rfl, hi1, hi2, hp5, hyl, hy9, hn1, hn4, hb1⟩
  have HP := Lib.hid hp5
  have HY9 := Lib.hid hy9
  have HYL := Lib.hid hyl
  have B_1 := Lib.hid hb1
  have IW_1 := Lib.hid hi1
  have IY_1 := Lib.hid hi2
  obtain ⟨pw, kw, rfl, -⟩ := hi1
  obtain ⟨py, ky, rfl, -⟩ := hi2
  have hwl := hp5.len
  rw [hwl] at IW_1 ⊢
  rw [hyl] at IY_1 ⊢
  clear hp5 hy9 hyl hb1 hwl
  go_wp2_with fail
  refine (DrawValues_any _ l _ (Hh.out.below B_1.out)).mono ?_
  rintro e w2 ⟨uX, xs, rfl, hi, hxl, hb⟩
  have hix := hi
  obtain ⟨px, kx, rfl, -⟩ := hi
  rw [hxl] at hix ⊢
  have HXL := Lib.hid hxl
  clear hxl
  have B_2 := Lib.hid (B_1.out.trans (hb.mono B_1.out.size))
  have IW_2 := Lib.hid (IW_1.out.below hb)
  have IY_2 := Lib.hid (IY_1.out.below hb)
  clear hb B_1 IW_1 IY_1
  have IX_2 := Lib.hid hix
  clear hix
  go_wp2_with fail
  refine (DoubleSchubert_any n _ _ ws ys _ IW_2.out IY_2.out HP.out hn4 HYL.out HY9.out).mono ?_
  rintro e w3 ⟨uf, rfl, hr⟩
  have hb := hr.bel
  obtain ⟨pf, nf, kf, rfl⟩ := hr.shape
  have IF_3 := Lib.hid hr
  clear hr
  have B_3 := Lib.hid (B_2.out.trans (hb.mono B_2.out.size))
  have IW_3 := Lib.hid (IW_2.out.below hb)
  have IY_3 := Lib.hid (IY_2.out.below hb)
  have IX_3 := Lib.hid (IX_2.out.below hb)
  clear hb B_2 IW_2 IY_2 IX_2
  go_wp2_with fail
  obtain ⟨cyO, cyK, ey, ⟨hy1, hy2⟩, hyc⟩ := IY_3.out
  rw [HYL.out] at hyc
  obtain ⟨by_, oy, rfl, hyd⟩ := hyc (by omega)
  injection ey with ey1 ey2 ey3
  subst ey1 ey3
  clear ey2
  have Hyd := Lib.hid hyd
  unfold maxLen at hy2
  rw [HYL.out] at hy1
  clear hyc hyd
  go_loopg [11, 12] n (fun g s11 s12 wr => ∃ i : Nat, i ≤ n ∧ g = n - i ∧ s12 = .int .i64 (i : Int) ∧ Hid (OwnI 3 wr w3.heap.size wr.heap.size s11 ((ys.take i).map fun y => -y)) ∧ Hid (Below w3.heap.size w3 wr))
  case atStart => exact ⟨0, Nat.zero_le _, rfl, rfl, OwnF.ints (xs := []) ((OwnF.made0 w3 3 (iv [])).mono (Nat.le_refl _) (by simp)), below_alloc _ _⟩
  case round =>
    obtain ⟨i, hi, rfl, rfl, hO, hbw⟩ := hrel
    obtain ⟨wo, rfl⟩ : ∃ x : World, x = wr := ⟨_, rfl⟩
    obtain ⟨cur, hcur⟩ : ∃ c, c = (ys.take i).map fun y => -y := ⟨_, rfl⟩
    rw [← hcur] at hO
    have hcl : cur.length = i := by rw [hcur, List.length_map, List.length_take, HYL.out]; omega
    obtain ⟨pc, kc, rfl, _, _⟩ := hO.out.shape
    rw [hcl] at hO ⊢
    have Hcur := Lib.hid hcur
    have Hcl := Lib.hid hcl
    have HO := Lib.hid hO.out
    clear hcur hcl hO
    by_cases hlt : i < n
    · have hii : (i : Int) < (n : Int) := by omega
      have c1 := cell_below hbw.out (Hyd.out i hlt)
      unfold iv at c1
      have hyr := HY9.out _ (getD_mem (show i < ys.length by rw [HYL.out]; exact hlt))
      have hsn : cur ++ [-(ys.getD i 0)] = (ys.take (i + 1)).map fun y => -y := by
        rw [Hcur.out, take_snoc ys i (by rw [HYL.out]; exact hlt), List.map_append]; rfl
      obtain ⟨y, hy⟩ : ∃ y, y = ys.getD i 0 := ⟨_, rfl⟩
      rw [← hy] at c1 hyr hsn
      have Hsn := Lib.hid hsn
      have hwz : IntKind.i64.wrap (0 - y) = -y := by rw [k64 (by omega) (by omega)]; omega
      have hwz2 : wrap64 (0 - y) = -y := by rw [w64 (by omega) (by omega)]; omega
      have hsz := hbw.out.size
      have Hof := Lib.hid (show OwnF wo w3.heap.size wo.heap.size 3 (.slice pc i kc) i (iv cur) by have := HO.out.fn; rw [Hcl.out] at this; exact this)
      have Hd1 := Lib.hid (show i + 1 ≤ maxLen by unfold maxLen; omega)
      have Hd2 := Lib.hid (show (i + 1) * 8 ≤ 140737488355328 by omega)
      clear hy hsn
      go_wp2_with (at_builtin; go_must (refine wpList_append_F rfl (.tmp 51) (.tmp 57) 24 rfl 3 (.int .i64 0) 8 Try.underlying24 info_int rfl w3.heap.size wo.heap.size _ i (iv cur) rfl (Hof.out.below (below_alloc _ _)) (by simp; omega) (by simp) _ 1 _ rfl (rd_one _ _ _ rfl) (fun j _ => rfl) Hd1.out Hd2.out ?_; intro v4 w4 ho4 hg4))
      have ho5 : OwnI 3 w4 w3.heap.size w4.heap.size v4 (cur ++ [-y]) := OwnI.snoc1 (by rw [Hcl.out]; first | exact ho4 | (simp only [Int.zero_sub] at ho4; exact ho4))
      rw [Hsn.out] at ho5
      have Hb4 := Lib.hid (hbw.out.trans (((below_alloc wo _).mono hsz).trans (grownBy_below2 hg4 (Hof.out.below (below_alloc _ _)) (Nat.le_refl _) (by simp; omega))))
      have Ho5 := Lib.hid ho5
      obtain ⟨p5, k5, rfl, _, _⟩ := ho4.shape
      clear ho4 hg4 ho5
      go_roundg (n - (i + 1))
      case measure => omega
      case rel => exact ⟨i + 1, by omega, rfl, by go_num, Ho5.out, Hb4.out⟩
    obtain rfl : i = n := by omega
    have hcur : cur = ys.map fun y => -y := by rw [Hcur.out, ← HYL.out, List.take_length]
    have Hless := Lib.hid hcur
    have hb := hbw.out
    have IL_4 := Lib.hid HO.out.ints
    have B_4 := Lib.hid (B_3.out.trans (hb.mono B_3.out.size))
    have IW_4 := Lib.hid (IW_3.out.below hb)
    have IX_4 := Lib.hid (IX_3.out.below hb)
    have IF_4 := Lib.hid (IF_3.out.below hb)
    obtain ⟨w4, rfl⟩ : ∃ x : World, x = wo := ⟨_, rfl⟩
    clear hcur HO hb B_3 IW_3 IX_3 IF_3 hbw Hyd IY_3 hy1 hy2
    go_wp2_with fail
    obtain ⟨T, hT⟩ : ∃ T, T = (permsL i).length := ⟨_, rfl⟩
    have hT4 := perms_len4 hn1 hn4
    rw [← hT] at hT4
    have HT := Lib.hid hT
    refine (specAllPerms_any i _).mono ?_
    rintro e w5 ⟨uA, rfl, ho, hb⟩
    rw [show allPermsL (i : Int) = permsL i by unfold allPermsL; rw [if_pos (by omega), Int.toNat_natCast]] at ho
    obtain ⟨pA, kA, rfl, _, _⟩ := ho.shape
    have IA_5 := Lib.hid ho.rd
    rw [← hT] at IA_5 ⊢
    clear ho hT
    have B_5 := Lib.hid (B_4.out.trans (hb.mono B_4.out.size))
    have IW_5 := Lib.hid (IW_4.out.below hb)
    have IX_5 := Lib.hid (IX_4.out.below hb)
    have IF_5 := Lib.hid (IF_4.out.below hb)
    have IL_5 := Lib.hid (IL_4.out.below hb)
    clear hb B_4 IW_4 IX_4 IF_4 IL_4
    go_wp2_with fail
    have hms : ∀ t, t < T → P5 i ((permsL i).getD t []) := fun t ht => perms_in hn1 hn4 (by rw [List.getD_eq_getElem?_getD, List.getElem?_eq_getElem (by rw [← HT.out]; exact ht)]; exact List.getElem_mem _)
    have Hms := Lib.hid hms
    clear hms
    go_loopg [14, 15] T (fun g s14 s15 wr => ∃ (t : Nat) (m : Int), t ≤ T ∧ g = T - t ∧ s15 = .int .i64 (t : Int) ∧ s14 = .int .i64 m ∧ 0 ≤ m ∧ m ≤ 32002 ∧ Hid (m = (((permsL i).take t).map (cauT ws xs (fillL cur))).sum % 32003) ∧ Hid (Below w5.heap.size w5 wr))
    case atStart => exact ⟨0, 0, Nat.zero_le _, rfl, rfl, rfl, by omega, by omega, by simp [Hid], Below.refl _ _⟩
    case round =>
      obtain ⟨t, m, ht, rfl, rfl, rfl, hm0, hm1, hsm, hbw⟩ := hrel
      obtain ⟨wo, rfl⟩ : ∃ x : World, x = wr := ⟨_, rfl⟩
      by_cases hlt : t < T
      · have hti : (t : Int) < (T : Int) := by omega
        obtain ⟨fA, ⟨_, _, e1, ⟨eA1, eA2⟩, cA⟩, rA⟩ := IA_5.out.below hbw.out
        injection e1 with e1 e2 e3
        subst e1 e3
        rw [← HT.out] at cA rA
        obtain ⟨bA, oA, rfl, cA0⟩ := cA (by omega)
        have c1 := cA0 t hlt
        have hu := rA t hlt
        have hu5 := Hms.out t hlt
        have hsp := sum_take_i (g := cauT ws xs (fillL cur)) (rows := permsL i) (t := t) (by rw [← HT.out]; exact hlt)
        obtain ⟨us, hus⟩ : ∃ x, x = (permsL i).getD t [] := ⟨_, rfl⟩
        rw [← hus] at hu hu5 hsp
        have Hsp := Lib.hid hsp
        have Hu5 := Lib.hid hu5
        have IU_6 := Lib.hid hu
        obtain ⟨pu, ku, hue, _⟩ := hu
        rw [hu5.len] at hue
        rw [hue] at c1 IU_6
        obtain ⟨ho1, ho2, ho3⟩ := oth_p5 HP.out hu5 hn4
        have Ho1 := Lib.hid ho1
        have Ho2 := Lib.hid ho2
        have Ho3 := Lib.hid ho3
        have B_6 := Lib.hid (B_5.out.trans (hbw.out.mono B_5.out.size))
        have IW_6 := Lib.hid (IW_5.out.below hbw.out)
        have IX_6 := Lib.hid (IX_5.out.below hbw.out)
        have IL_6 := Lib.hid (IL_5.out.below hbw.out)
        have BB_6 := Lib.hid hbw.out
        have Hsm := Lib.hid hsm.out
        obtain ⟨w6, rfl⟩ : ∃ x : World, x = wo := ⟨_, rfl⟩
        clear cA cA0 rA hus hue hu5 hsp ho1 ho2 ho3 e2 hbw hsm
    
        go_wp2_with fail
        refine (implInverse_any _ us _ IU_6.out Hu5.out.ok).mono ?_
        rintro e w7 ⟨u7, rfl, ho, hb⟩
        have hi := ho.ints
        obtain ⟨p7, k7, rfl, _, _⟩ := ho.shape
        rw [Ho1.out.len] at hi ⊢
        clear ho
        have B_7 := Lib.hid (B_6.out.trans (hb.mono B_6.out.size))
        have BB_7 := Lib.hid (BB_6.out.trans (hb.mono BB_6.out.size))
        have IW_7 := Lib.hid (IW_6.out.below hb)
        have IX_7 := Lib.hid (IX_6.out.below hb)
        have IL_7 := Lib.hid (IL_6.out.below hb)
        have IU_7 := Lib.hid (IU_6.out.below hb)
        clear hb B_6 BB_6 IW_6 IX_6 IL_6 IU_6
        have IV_7 := Lib.hid hi
        clear hi
        go_wp2_with fail
        refine (Compose_any ws (invL us) _ _ _ IW_7.out IV_7.out HP.out.ok Ho1.out.ok (by rw [HP.out.len, Ho1.out.len])).mono ?_
        rintro e w8 ⟨u8, rfl, ho, hb⟩
        have hi := ho.ints
        obtain ⟨p8, k8, rfl, _, _⟩ := ho.shape
        have hl8 : (cmpL ws (invL us)).length = i := Ho2.out.len
        rw [hl8] at hi ⊢
        clear ho hl8
        have B_8 := Lib.hid (B_7.out.trans (hb.mono B_7.out.size))
        have BB_8 := Lib.hid (BB_7.out.trans (hb.mono BB_7.out.size))
        have IW_8 := Lib.hid (IW_7.out.below hb)
        have IX_8 := Lib.hid (IX_7.out.below hb)
        have IL_8 := Lib.hid (IL_7.out.below hb)
        have IU_8 := Lib.hid (IU_7.out.below hb)
        have IV_8 := Lib.hid (IV_7.out.below hb)
        clear hb B_7 BB_7 IW_7 IX_7 IL_7 IU_7 IV_7
        have IO_8 := Lib.hid hi
        clear hi
        go_wp2_with fail
        refine (implLength_any _ us _ IU_8.out Hu5.out.ok).mono ?_
        rintro e w9 ⟨rfl, hb⟩
        have B_9 := Lib.hid (B_8.out.trans (hb.mono B_8.out.size))
        have BB_9 := Lib.hid (BB_8.out.trans (hb.mono BB_8.out.size))
        have IW_9 := Lib.hid (IW_8.out.below hb)
        have IX_9 := Lib.hid (IX_8.out.below hb)
        have IL_9 := Lib.hid (IL_8.out.below hb)
        have IU_9 := Lib.hid (IU_8.out.below hb)
        have IO_9 := Lib.hid (IO_8.out.below hb)
        clear hb B_8 BB_8 IW_8 IX_8 IL_8 IU_8 IO_8
        go_wp2_with fail
        refine (implLength_any _ (othL ws us) _ IO_9.out Ho2.out.ok).mono ?_
        rintro e w10 ⟨rfl, hb⟩
        have B_10 := Lib.hid (B_9.out.trans (hb.mono B_9.out.size))
        have BB_10 := Lib.hid (BB_9.out.trans (hb.mono BB_9.out.size))
        have IW_10 := Lib.hid (IW_9.out.below hb)
        have IX_10 := Lib.hid (IX_9.out.below hb)
        have IL_10 := Lib.hid (IL_9.out.below hb)
        have IU_10 := Lib.hid (IU_9.out.below hb)
        have IO_10 := Lib.hid (IO_9.out.below hb)
        clear hb B_9 BB_9 IW_9 IX_9 IL_9 IU_9 IO_9
        obtain ⟨a, ha⟩ : ∃ a, a = lenP us := ⟨_, rfl⟩
        obtain ⟨b, hbb⟩ : ∃ a, a = lenP (othL ws us) := ⟨_, rfl⟩
        have hal := lenP4 Hu5.out
        have hbl := lenP4 Ho2.out
        rw [← ha] at hal
        rw [← hbb] at hbl
        rw [← ha, ← hbb]
        have Ha := Lib.hid ha
        have Hbb := Lib.hid hbb
        clear ha hbb
        go_wp2_with fail
        refine (implLength_any _ ws _ IW_10.out HP.out.ok).mono ?_
        rintro e w11 ⟨rfl, hb⟩
        have B_11 := Lib.hid (B_10.out.trans (hb.mono B_10.out.size))
        have BB_11 := Lib.hid (BB_10.out.trans (hb.mono BB_10.out.size))
        have IW_11 := Lib.hid (IW_10.out.below hb)
        have IX_11 := Lib.hid (IX_10.out.below hb)
        have IL_11 := Lib.hid (IL_10.out.below hb)
        have IU_11 := Lib.hid (IU_10.out.below hb)
        have IO_11 := Lib.hid (IO_10.out.below hb)
        clear hb B_10 BB_10 IW_10 IX_10 IL_10 IU_10 IO_10
        obtain ⟨c, hcc⟩ : ∃ a, a = lenP ws := ⟨_, rfl⟩
        have hcl2 := lenP4 HP.out
        rw [← hcc] at hcl2
        rw [← hcc]
        have hway : wayB ws us = decide (a + b = c) := by unfold wayB; rw [Ha.out, Hbb.out, hcc]
        have Hway := Lib.hid hway
        clear hcc hway
        by_cases hz : a + b = c
        · subst hz
          have Hterm : Hid (cauT ws xs (fillL cur) us = Ev (schP us) (mono xs) * Ev (schP (invL (othL ws us))) (mono (fillL cur))) := Lib.hid (by unfold cauT; rw [Hway.out, decide_eq_true rfl, if_pos rfl])
          go_wp2_with fail
          refine (lawSchubert_any i _ us _ IU_11.out Hu5.out hn4).mono ?_
          rintro e w12 ⟨u12, rfl, hr⟩
          have hb := hr.bel
          have hi := hr
          obtain ⟨p12, n12, k12, rfl⟩ := hr.shape
          clear hr
          have B_12 := Lib.hid (B_11.out.trans (hb.mono B_11.out.size))
          have BB_12 := Lib.hid (BB_11.out.trans (hb.mono BB_11.out.size))
          have IW_12 := Lib.hid (IW_11.out.below hb)
          have IX_12 := Lib.hid (IX_11.out.below hb)
          have IL_12 := Lib.hid (IL_11.out.below hb)
          have IU_12 := Lib.hid (IU_11.out.below hb)
          have IO_12 := Lib.hid (IO_11.out.below hb)
          clear hb B_11 BB_11 IW_11 IX_11 IL_11 IU_11 IO_11
          have IS_12 := Lib.hid hi
          clear hi
          go_wp2_with fail
          refine (IS_12.out.ev IX_12.out HXL.out).mono ?_
          rintro e w13 ⟨rfl, hb⟩
          have B_13 := Lib.hid (B_12.out.trans (hb.mono B_12.out.size))
          have BB_13 := Lib.hid (BB_12.out.trans (hb.mono BB_12.out.size))
          have IW_13 := Lib.hid (IW_12.out.below hb)
          have IX_13 := Lib.hid (IX_12.out.below hb)
          have IL_13 := Lib.hid (IL_12.out.below hb)
          have IU_13 := Lib.hid (IU_12.out.below hb)
          have IO_13 := Lib.hid (IO_12.out.below hb)
          have IS_13 := Lib.hid (IS_12.out.below hb)
          clear hb B_12 BB_12 IW_12 IX_12 IL_12 IU_12 IO_12 IS_12
          go_wp2_with fail
          refine (implInverse_any _ (othL ws us) _ IO_13.out Ho2.out.ok).mono ?_
          rintro e w14 ⟨u14, rfl, ho, hb⟩
          have hi := ho.ints
          obtain ⟨p14, k14, rfl, _, _⟩ := ho.shape
          rw [Ho3.out.len] at hi ⊢
          clear ho
          have B_14 := Lib.hid (B_13.out.trans (hb.mono B_13.out.size))
          have BB_14 := Lib.hid (BB_13.out.trans (hb.mono BB_13.out.size))
          have IW_14 := Lib.hid (IW_13.out.below hb)
          have IX_14 := Lib.hid (IX_13.out.below hb)
          have IL_14 := Lib.hid (IL_13.out.below hb)
          have IU_14 := Lib.hid (IU_13.out.below hb)
          have IO_14 := Lib.hid (IO_13.out.below hb)
          clear hb B_13 BB_13 IW_13 IX_13 IL_13 IU_13 IO_13
          have IV_14 := Lib.hid hi
          clear hi
          go_wp2_with fail
          refine (lawSchubert_any i _ (invL (othL ws us)) _ IV_14.out Ho3.out hn4).mono ?_
          rintro e w15 ⟨u15, rfl, hr⟩
          have hb := hr.bel
          have hi := hr
          obtain ⟨p15, n15, k15, rfl⟩ := hr.shape
          clear hr
          have B_15 := Lib.hid (B_14.out.trans (hb.mono B_14.out.size))
          have BB_15 := Lib.hid (BB_14.out.trans (hb.mono BB_14.out.size))
          have IW_15 := Lib.hid (IW_14.out.below hb)
          have IX_15 := Lib.hid (IX_14.out.below hb)
          have IL_15 := Lib.hid (IL_14.out.below hb)
          have IU_15 := Lib.hid (IU_14.out.below hb)
          have IO_15 := Lib.hid (IO_14.out.below hb)
          have IV_15 := Lib.hid (IV_14.out.below hb)
          clear hb B_14 BB_14 IW_14 IX_14 IL_14 IU_14 IO_14 IV_14
          have IS_15 := Lib.hid hi
          clear hi
          go_wp2_with fail
          refine (filled_any _ cur _ IL_15.out (by rw [Hcl.out]; omega)).mono ?_
          rintro e w16 ⟨u16, rfl, ho, hb⟩
          have hi := ho.ints
          obtain ⟨p16, k16, rfl, _, _⟩ := ho.shape
          have hl16 := fillL_length (xs := cur) (by rw [Hcl.out]; omega)
          rw [hl16] at hi ⊢
          have Hl16 := Lib.hid hl16
          clear ho hl16
          have B_16 := Lib.hid (B_15.out.trans (hb.mono B_15.out.size))
          have BB_16 := Lib.hid (BB_15.out.trans (hb.mono BB_15.out.size))
          have IW_16 := Lib.hid (IW_15.out.below hb)
          have IX_16 := Lib.hid (IX_15.out.below hb)
          have IL_16 := Lib.hid (IL_15.out.below hb)
          have IU_16 := Lib.hid (IU_15.out.below hb)
          have IO_16 := Lib.hid (IO_15.out.below hb)
          have IV_16 := Lib.hid (IV_15.out.below hb)
          have IS_16 := Lib.hid (IS_15.out.below hb)
          clear hb B_15 BB_15 IW_15 IX_15 IL_15 IU_15 IO_15 IV_15 IS_15
          have IZ_16 := Lib.hid hi
          clear hi
          go_wp2_with fail
          refine (IS_16.out.ev IZ_16.out Hl16.out).mono ?_
          rintro e w17 ⟨rfl, hb⟩
          have B_17 := Lib.hid (B_16.out.trans (hb.mono B_16.out.size))
          have BB_17 := Lib.hid (BB_16.out.trans (hb.mono BB_16.out.size))
          have IW_17 := Lib.hid (IW_16.out.below hb)
          have IX_17 := Lib.hid (IX_16.out.below hb)
          have IL_17 := Lib.hid (IL_16.out.below hb)
          have IU_17 := Lib.hid (IU_16.out.below hb)
          have IO_17 := Lib.hid (IO_16.out.below hb)
          have IV_17 := Lib.hid (IV_16.out.below hb)
          have IS_17 := Lib.hid (IS_16.out.below hb)
          have IZ_17 := Lib.hid (IZ_16.out.below hb)
          clear hb B_16 BB_16 IW_16 IX_16 IL_16 IU_16 IO_16 IV_16 IS_16 IZ_16
          obtain ⟨x1, hx1⟩ : ∃ x, x = Ev (schP us) (mono xs) % 32003 := ⟨_, rfl⟩
          obtain ⟨x2, hx2⟩ : ∃ x, x = Ev (schP (invL (othL ws us))) (mono (fillL cur)) % 32003 := ⟨_, rfl⟩
          have r1 := emod_rng (Ev (schP us) (mono xs))
          have r2 := emod_rng (Ev (schP (invL (othL ws us))) (mono (fillL cur)))
          rw [← hx1] at r1 ⊢
          rw [← hx2] at r2 ⊢
          obtain ⟨z, hz⟩ : ∃ z, z = x1 * x2 := ⟨_, rfl⟩
          have hzr := tm_mul (a := x1) (b := x2) (A := 32002) (B := 32002) (by omega) (by omega)
          have hz0 : 0 ≤ z := by rw [hz]; exact Int.mul_nonneg r1.1 r2.1
          rw [← hz] at hzr
          obtain ⟨r, hr⟩ : ∃ r, (m + z).tmod 32003 = r := ⟨_, rfl⟩
          have hr2 : r = (m + z) % 32003 := by rw [← hr, Int.tmod_eq_emod_of_nonneg (by omega)]
          have hrr := emod_rng (m + z)
          rw [← hr2] at hrr
          have hfin : r = (((permsL i).take (t + 1)).map (cauT ws xs (fillL cur))).sum % 32003 := by
            rw [hr2, Hsp.out, Hterm.out, hz, hx1, hx2, Hsm.out, Int.emod_add_emod, Int.add_emod, Int.mul_emod, Int.emod_emod, Int.emod_emod, ← Int.mul_emod, ← Int.add_emod]
          have Hfin := Lib.hid hfin
          have Hrr := Lib.hid hrr
          have hr3 : (m + z) % 32003 = r := hr2.symm
          have hnz : ¬ (32003 : Int) = 0 := by omega
          have hnn : 0 ≤ m + z := by omega
          have hw1 := k64 (n := m + z) (by omega) (by omega)
          have hw2 := w64 (n := m + z) (by omega) (by omega)
          have hw3 : IntKind.i64.wrap (x1 * x2) = z := by rw [← hz]; exact k64 (by omega) (by omega)
          have hw4 : wrap64 (x1 * x2) = z := by rw [← hz]; exact w64 (by omega) (by omega)
          clear hfin hrr hr2 hzr hz0 hx1 hx2 r1 r2 hz
          go_wp2_with fail
          go_roundg (T - (t + 1))
          case measure => omega
          case rel => exact ⟨t + 1, r, by omega, rfl, by go_num, rfl, Hrr.out.1, Hrr.out.2, Hfin.out, BB_17.out⟩
        · have hne : ((a : Int) + (b : Int) == (c : Int)) = false := by rw [beq_eq_false_iff_ne]; omega
          have hne2 : ¬ (a : Int) + (b : Int) = (c : Int) := by omega
          have Hterm : Hid (cauT ws xs (fillL cur) us = 0) := Lib.hid (by unfold cauT; rw [Hway.out, decide_eq_false hz, if_neg Bool.false_ne_true])
          have hfin : m = (((permsL i).take (t + 1)).map (cauT ws xs (fillL cur))).sum % 32003 := by
            rw [Hsp.out, Hterm.out, Int.add_zero]; exact Hsm.out
          have Hfin := Lib.hid hfin
          clear hfin hz
          go_wp2_with fail
          go_roundg (T - (t + 1))
          case measure => omega
          case rel => exact ⟨t + 1, m, by omega, rfl, by go_num, rfl, hm0, hm1, Hfin.out, BB_11.out⟩
      · obtain rfl : t = T := by omega
        have hb := hbw.out
        have B_6 := Lib.hid (B_5.out.trans (hb.mono B_5.out.size))
        have IX_6 := Lib.hid (IX_5.out.below hb)
        have IF_6 := Lib.hid (IF_5.out.below hb)
        have hlaw : m = Ev (dblP ws ys) (mono xs) % 32003 := by
          rw [hsm.out, HT.out, List.take_length, cau_law HP.out hn4 (y := ys) (less := fillL cur) (fun j => ?_) xs]
          rw [fillL_getD, Hless.out]
          by_cases hj : j < ys.length
          · rw [List.getD_eq_getElem?_getD, List.getD_eq_getElem?_getD, List.getElem?_map, List.getElem?_eq_getElem hj]; rfl
          · rw [List.getD_eq_getElem?_getD, List.getD_eq_getElem?_getD, List.getElem?_eq_none (by rw [List.length_map]; omega), List.getElem?_eq_none (by omega)]; rfl
        have Hlaw := Lib.hid hlaw
        clear hlaw hb hsm
        go_wp2_with fail
        refine (IF_6.out.ev IX_6.out HXL.out).mono ?_
        rintro e w7 ⟨rfl, hb⟩
        rw [← Hlaw.out]
        have B_7 := Lib.hid (B_6.out.trans (hb.mono B_6.out.size))
        go_wp2_with fail
        go_ret
        exact ⟨by first | rfl | simp, B_7.out⟩

end Go.Proofs.Ytllmhicmikpfeaa
