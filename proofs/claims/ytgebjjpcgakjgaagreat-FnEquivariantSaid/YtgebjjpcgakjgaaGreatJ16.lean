/-
  ExpandPoly: a polynomial taken apart.
  The products of Schubert polynomials, taken apart: the classes in the order in which they are found (printed by gen_exd.py).
  IsShape, and a shape in a box, on both sides.
  A shape in a box, on both sides.
  Slices of matrices: what they hold; compared, marked, looked through by the law's own helpers.
  All matrices with any numbers at some places: spec.l7Power, spec.l7Fill, impl.matricesWith.
-/
import Derived.Test.YtgebjjpcgakjgaaGreatJ13
import Derived.Test.YtgebjjpcgakjgaaGreatJ14
import Derived.Test.YtgebjjpcgakjgaaGreatJ15
import Derived.Test.YtgebjjpcgakjgaaGreatJ6
import Derived.Maps.OwnOps
import Derived.Test.YtgebjjpcgakjgaaGreatJ2
import Derived.Test.YtgebjjpcgakjgaaGreatJ3
import Derived.Test.YtgebjjpcgakjgaaGreatJ4
namespace Go.Proofs.YtgebjjpcgakjgaaGreat
set_option linter.all false
set_option maxRecDepth 100000
open Go.RowKit Go.Maps Go.WideMaps Go.WideElems Go.MapKept Go.ChangeMaps Go.ChangeShapes

theorem ownMp_below {w w' : World} {b n : Nat} {D : DU} (h : OwnMp w b n D) (hb : Below w.heap.size w w') : OwnMp w' b n D := by
  have hlt := h.lt
  obtain ⟨es, clock, hb', F, hs, hD⟩ := h
  exact ⟨es, clock, (hb.block b hlt).trans hb', F, hs, hD⟩
theorem size_pos {D : DU} (ht : Tidy D) {k : Lit} (h : has D k = true) : 0 < Maps.size D := by
  obtain ⟨es, rfl, _⟩ := ht
  obtain ⟨p, hp, _⟩ := List.any_eq_true.1 h
  show 0 < es.length
  exact List.length_pos_of_mem hp
structure StpIs (P : Pl) (w : List Int) (c : Int) (e : List Int) : Prop where
  k7 : K7 24 e
  co : ∀ x, -1000000 ≤ cfP P x ∧ cfP P x ≤ 1000000
  at_ : cfP P e = c
  ne : c ≠ 0
  min : ∀ x, K7 24 x → cfP P x ≠ 0 → x = e ∨ ltT e x = true
  poB : poB e = true
  per : permOk (poO e 7) = true
  trim : trimL (poO e 7) = w
  wok : permOk w = true
  wtr : trimL w = w
  w1 : 1 ≤ w.length
  w7 : w.length ≤ 7
  low : lowOk 15 w = true
theorem stp_is {P : Pl} {w : List Int} {c : Int} (h : stpB P w c = true) : ∃ e, StpIs P w c e := by
  match P, h with
  | t :: P', h =>
    unfold stpB at h
    simp only [Bool.and_eq_true, decide_eq_true_eq] at h
    obtain ⟨⟨⟨⟨⟨⟨⟨⟨⟨⟨⟨⟨⟨a1, a2⟩, a3⟩, a4⟩, a5⟩, a6⟩, a7⟩, a8⟩, a9⟩, b1⟩, b2⟩, b3⟩, b4⟩, b5⟩ := h
    have hne : ∀ s ∈ P', s.1 ≠ t.1 := fun s hs e => by
      have := List.all_eq_true.1 a3 s hs
      rw [e, ltT_irrefl] at this
      cases this
    have hcf : cfP (t :: P') t.1 = c := by
      have h1 : cfP (t :: P') t.1 = t.2 * ind t.1 t.1 + cfP P' t.1 := Ev_cons t P' _
      rw [h1, cf_none hne]
      unfold ind
      rw [if_pos rfl, a4]
      omega
    refine ⟨t.1, ⟨a1, fun x hx => ?_⟩, fun x => ?_, hcf, a5, fun x _ hx => ?_, a7, a8, a9, b1, b2, b3, b4, b5⟩
    · have := List.all_eq_true.1 a2 x hx
      simpa using this
    · have := cf_l1 x (t :: P')
      omega
    · by_cases e : x = t.1
      · exact .inl e
      · right
        by_cases hm : ∃ s ∈ P', s.1 = x
        · obtain ⟨s, hs, rfl⟩ := hm
          exact List.all_eq_true.1 a3 s hs
        · exact absurd (cf_none (P := t :: P') (e := x) fun s hs e2 => by
            rcases List.mem_cons.1 hs with rfl | hs
            · exact e e2.symm
            · exact hm ⟨s, hs, e2⟩) hx

theorem map_ne {w : World} {b n m size lo hi : Nat} {D : DU} {T : TypeId} {v : Value} {F : Nat → Nat → Value} (h : OwnMp w b n D) (g : OwnS w lo hi T size v m F) : some b ≠ v.ownBlock := fun e => by
  obtain ⟨c, fz, hc⟩ := g.kind b e.symm
  obtain ⟨es, clock, hb', _⟩ := h
  rw [hc] at hb'
  cases hb'

set_option maxHeartbeats 8000000 in
theorem ExpandPoly_any (v : Value) (ts : List Cls) (P0 : Pl) (L : List Cls) (w : World) (h : RdCl w v ts) (hok : TsOk ts) (hev : ∀ g, Ev ts g = Ev P0 g) (hx : exdOk P0 L = true) (hcl : clsOk (srtC L) = true) (hl : L.length ≤ 90) (hnd : (L.map (·.1)).Nodup) :
    Calls Tryz.prog 24 #[v] w fun e w' => ∃ u, e = .returned (.tuple #[u, .bool true]) ∧ RdCl w' u (srtC L) ∧ Below w.heap.size w w' := by
  have Hh := Lib.hid h
  have Hok := Lib.hid hok
  have Hev := Lib.hid hev
  have Hx := Lib.hid hx
  have Hcl := Lib.hid hcl
  have Hnd := Lib.hid hnd
  have h6 := hok.1
  obtain ⟨f, ⟨p, cap, rfl, _⟩, _⟩ := h
  clear hok hev hx hcl hnd
  go_enter Tryz.func24, Tryz.ntmps24
  go_wp2_with fail
  refine (PolyOk_yes _ ts _ Hh.out Hok.out).mono ?_
  rintro e w1 ⟨rfl, hb1⟩
  have Hb1 := Lib.hid hb1
  clear hb1
  go_wp2_with fail
  refine (open_any _ ts _ (Hh.out.below Hb1.out) Hok.out).mono ?_
  rintro e w2 ⟨u2, rfl, hp2, hb2⟩
  have Hp2 := Lib.hid (hp2.alt (Q := P0) fun g => Cg.of _ _ (Hev.out g))
  obtain ⟨b2, D2, rfl, _, _⟩ := hp2
  have Hb2 := Lib.hid (Hb1.out.trans (hb2.mono Hb1.out.size))
  have hs2 := Hb2.out.size
  clear hb2
  go_wp2_with fail
  go_loopg [4, 5, 6, 7, 8] L.length (fun g s4 s5 s6 s7 s8 wr => ∃ (P : Pl) (done Lr : List Cls) (nf : Nat), Hid (done ++ Lr = L) ∧ g = Lr.length ∧ Hid (exdOk P Lr = true) ∧ Hid (PolV wr s4 24 nf P) ∧ nf ≤ 600 + done.length * 470184984576 ∧ done.length + Lr.length ≤ 90 ∧ Hid (OwnCd wr w2.heap.size wr.heap.size s5 done) ∧ Hid (Below w.heap.size w wr) ∧ w2.heap.size ≤ wr.heap.size)
  case atStart => exact ⟨P0, [], L, ts.length, rfl, rfl, Hx.out, Hp2.out.below (below_alloc w2 _), by simpa using h6, by simpa using hl, (OwnCd.made0 w2).mono (Nat.le_refl _) (by rw [size_alloc]; exact Nat.le_refl _), Hb2.out.trans ((below_alloc w2 _).mono hs2), by rw [size_alloc]; omega⟩
  case round =>
    obtain ⟨P, done, Lr, nf, hL, rfl, hxd, hP, hnf, hlen, hO, hb, hsz⟩ := hrel
    obtain ⟨wo, rfl⟩ : ∃ x : World, x = wr := ⟨_, rfl⟩
    have HL := Lib.hid hL.out
    have HO := Lib.hid hO.out
    have Hb := Lib.hid hb.out
    obtain ⟨bf, D, rfl, hf1, hf2⟩ := hP.out
    have HF1 := Lib.hid hf1
    have HF2 := Lib.hid hf2
    have hxd' := hxd.out
    obtain ⟨p5, k5, e5, _, _⟩ := HO.out.shape
    subst e5
    match Lr, hxd' with
    | [], hxd' =>
      have hP0 : P = [] := by
        unfold exdOk at hxd'
        simpa using hxd'
      have hD0 : Maps.size D = 0 := by
        have := size_le hf1 hf2 (by omega) (fun e => by rw [hP0]; show (-1000000 : Int) ≤ 0 ∧ (0 : Int) ≤ 1000000; omega) (S := []) (fun e _ he => by rw [hP0] at he; exact absurd rfl he)
        simpa using this
      have hdone : done = L := by have := HL.out; rw [List.append_nil] at this; exact this
      subst hdone
      have HSo := Lib.hid (fun (wx : World) (hb : Below wo.heap.size wo wx) => sortClasses_any (.slice p5 done.length k5) done w2.heap.size wo.heap.size wx (HO.out.below hb) (by omega) Hnd.out)
      clear hxd hxd' hP0 hf1 hf2 hb hL hO hP
      go_wp2_with (first
        | (at_len; refine wpList_len_own _ rfl _ 61 rfl 75 3 und41 _ bf nf _ rfl HF1.out ?_)
        | fail)
      refine (HSo.out _ (Below.refl _ _)).mono ?_
      rintro e w3 ⟨rfl, ho3, hf3⟩
      have Ho3 := Lib.hid ho3
      have Hb3 := Lib.hid (Hb.out.trans (hf3.below (by omega) (by have := Hb.out.size; omega)))
      have hlen3 : (srtC done).length = done.length := (srtC_perm done).length_eq
      have HC := Lib.hid (implClassesOk_any _ (srtC done) w3 ho3.rd)
      clear ho3 hf3
      rw [Hcl.out] at HC
      go_wp2_with fail
      refine HC.out.mono ?_
      rintro e w4 ⟨rfl, hb4⟩
      have Hr4 := Lib.hid (Ho3.out.rd.below hb4)
      have Hb4 := Lib.hid (Hb3.out.trans (hb4.mono Hb3.out.size))
      clear hb4
      go_wp2_with fail
      go_ret2
      exact ⟨_, rfl, Hr4.out, Hb4.out⟩
    | (xw, xc) :: Lr', hxd' =>
      unfold exdOk at hxd'
      rw [Bool.and_eq_true] at hxd'
      obtain ⟨e0, hS⟩ := stp_is hxd'.1
      have HNext := Lib.hid hxd'.2
      have HS := Lib.hid hS
      have hc0 : cfP P e0 ≠ 0 := by rw [hS.at_]; exact hS.ne
      have hhas := has_of_cf hf1 hf2 (by omega) hS.co hS.k7 hc0
      have hpos : (0 : Int) < (Maps.size D : Int) := by have := size_pos hf2.tidy hhas; omega
      have Hhas := Lib.hid hhas
      have HFi := Lib.hid (first_any (.map (some bf)) 24 nf P e0 wo hP.out (by omega) hS.co hS.k7 hc0 hS.min)
      have HPw := Lib.hid hP.out
      obtain ⟨t0, t1, t2, t3, t4, t5, t6, hts⟩ := lit7 hS.k7.1
      have Hts := Lib.hid hts
      rw [hts, kv7] at HFi
      have Hlen := Lib.hid hlen
      clear hxd hxd' hf1 hf2 hb hL hO hP hS hc0 hhas hts
      go_wp2_with (first
        | (at_len; refine wpList_len_own _ rfl _ 61 rfl 75 3 und41 _ bf nf _ rfl HF1.out ?_)
        | fail)
      refine HFi.out.mono ?_
      rintro e w3 ⟨rfl, hb3⟩
      obtain ⟨W, hW⟩ : ∃ W, W = w3.alloc (.cells #[.int .i64 t0, .int .i64 t1, .int .i64 t2, .int .i64 t3, .int .i64 t4, .int .i64 t5, .int .i64 t6] 75) := ⟨_, rfl⟩
      have hzW : W.heap[w3.heap.size]? = some (.cells #[.int .i64 t0, .int .i64 t1, .int .i64 t2, .int .i64 t3, .int .i64 t4, .int .i64 t5, .int .i64 t6] 75 (0, 0)) := by rw [hW]; exact heap_alloc_top _ _
      have hbW : Below wo.heap.size wo W := by rw [hW]; exact hb3.trans ((below_alloc w3 _).mono hb3.size)
      have HzW := Lib.hid hzW
      have HbW := Lib.hid hbW
      have HW := Lib.hid hW
      have HPo := Lib.hid (PermOfCode_any (.slice (some ⟨w3.heap.size, 0, none⟩) 7 7) e0 W (by rw [Hts.out]; exact ArT.ints (T := 75) (a := [t0, t1, t2, t3, t4, t5, t6]) hzW rfl) (by rw [HS.out.k7.1]; omega) (by rw [HS.out.k7.1]; omega) HS.out.poB)
      rw [HS.out.k7.1] at HPo
      have hx0 := cell_of_blk hzW (j := 0) rfl
      clear hzW hbW hW hb3 hpos
      go_wp2_with fail
      rw [← HW.out]
      refine HPo.out.mono ?_
      rintro e w4 ⟨u4, rfl, ho4, hb4⟩
      have HTr := Lib.hid (implTrim_yes u4 (poO e0 7) w4 ho4.ints HS.out.per)
      have Hb4 := Lib.hid (HbW.out.trans (hb4.mono HbW.out.size))
      obtain ⟨p4, k4, e4, _, _⟩ := ho4.shape
      subst e4
      have hs4 := Hb4.out.size
      clear ho4
      go_wp2_with fail
      refine HTr.out.mono ?_
      rw [HS.out.trim]
      rintro e w5 ⟨u5, rfl, ho5, hb5⟩
      have Hb5 := Lib.hid (Hb4.out.trans (hb5.mono hs4))
      have HxI := Lib.hid (ho5.mono hs4 (Nat.le_refl _))
      have hn5 := HS.out.w1
      obtain ⟨pu, ku, eu, hku, hkm⟩ := ho5.shape
      subst eu
      obtain ⟨gu, egu, _, _, _⟩ := ho5.fn.at_ hn5
      subst egu
      have hs5 := Hb5.out.size
      have hz5 := blk_later (blk_later HzW.out hb4) hb5
      obtain ⟨y0, y1, y2, y3, y4, y5, y6, _, _⟩ := blk7 hz5
      have keq := Lib.run_eql_slice_nil (P := Tryz.prog) w5 24 3 (some ⟨gu, 0, none⟩) xw.length ku 0 0 Tryz.underlying24
      have Hlen' := Hlen.out
      have hd1 : ((done.length : Int) == 100) = false := by rw [beq_eq_false_iff_ne]; rw [List.length_cons] at Hlen'; omega
      have hd2 : ¬ (done.length : Int) = 100 := by rw [List.length_cons] at Hlen'; omega
      have HF5 := Lib.hid (ownMp_below HF1.out Hb5.out)
      have Hkey := Lib.hid (show keyOf Tryz.prog 75 (.agg #[.int .i64 t0, .int .i64 t1, .int .i64 t2, .int .i64 t3, .int .i64 t4, .int .i64 t5, .int .i64 t6]) = some (kl e0) by
        rw [← kv7, ← Hts.out]
        exact keyOf_kv HS.out.k7 (by omega))
      have HCc := Lib.hid (show ∀ c, D.atKey (kl e0) (.lit (.int .i64 0)) = .lit (.int .i64 c) → c = xc from fun c hat => by
        rw [(at_cf HF1.out HF2.out (by omega) HS.out.co HS.out.k7 Hhas.out hat).1]
        exact HS.out.at_)
      obtain ⟨fd, g1, g2, g3⟩ := HO.out.below Hb5.out
      obtain ⟨nu, hnu⟩ : ∃ nu, nu = xw.length := ⟨_, rfl⟩
      obtain ⟨oC, hoC⟩ : ∃ o : Obj, o = .cells #[.slice (some ⟨gu, 0, none⟩) nu ku, .int .i64 xc] 34 := ⟨_, rfl⟩
      have hal := below_alloc w5 oC
      have g1a := Lib.hid (g1.below hal)
      have g2a := Lib.hid (show ∀ i, i < done.length → OwnI 3 (w5.alloc oC) w2.heap.size wo.heap.size (fd i) (done.getD i clD).1 from fun i hi => (g2 i hi).below hal)
      have G3 := Lib.hid g3
      have Hxt := Lib.hid (HxI.out.below hal)
      have HFa := Lib.hid (HF5.out.alloc oC)
      have Hcl2 := Lib.hid (show ∀ j, j < 2 → (w5.alloc oC).cell? ⟨w5.heap.size, j, none⟩ = some (match j with | 0 => .slice (some ⟨gu, 0, none⟩) nu ku | _ => .int .i64 xc) from fun j hj => by
        rw [hoC]
        exact match j, hj with
        | 0, _ => cell_of_blk (heap_alloc_top w5 _) (j := 0) rfl
        | 1, _ => cell_of_blk (heap_alloc_top w5 _) (j := 1) rfl)
      have Hone := Lib.hid (show ∀ j, j < 2 → (match j with | 0 => Value.slice (some ⟨gu, 0, none⟩) nu ku | _ => .int .i64 xc).oneCell' = true from fun j hj =>
        match j, hj with
        | 0, _ => rfl
        | 1, _ => rfl)
      have Hn1 := Lib.hid (show done.length + 1 ≤ maxLen by unfold maxLen; rw [List.length_cons] at Hlen'; omega)
      have Hn2 := Lib.hid (show (done.length + 1) * 32 ≤ 140737488355328 by rw [List.length_cons] at Hlen'; omega)
      have Hlo := Lib.hid (show w2.heap.size ≤ (w5.alloc oC).heap.size by rw [size_alloc]; omega)
      have hco := HS.out.co e0
      rw [HS.out.at_] at hco
      have hng : IntKind.i64.wrap (-xc) = -xc := k64 (by omega) (by omega)
      have hng2 : wrap64 (-xc) = -xc := w64 (by omega) (by omega)
      have Hnu := Lib.hid hnu
      have Hal := Lib.hid hal
      have HoC := Lib.hid hoC
      rw [← hnu] at hku hn5 ⊢
      rw [← hnu] at keq
      unfold maxLen at hkm
      rw [hoC] at g1a Hlo Hcl2
      clear g1 g2 g3 ho5 hb5 hz5 hal hnu hoC hco hb4 Hlen' hx0
      go_wp2_with (first
        | (at_lookup; refine wpList_lookup_own_int _ rfl _ _ 61 rfl 75 3 .i64 klaw und41 undI (zeroI _) bf nf D rfl HF5.out _ _ rfl Hkey.out ?_; intro c hat hwf; obtain rfl := HCc.out c hat)
        | (at_builtin; go_must (refine wpList_append_S rfl (.tmp 33) (.tmp 37) 27 rfl 34 _ 2 32 Tryz.underlying27 info_cls rfl (by omega) w2.heap.size wo.heap.size _ done.length (clF done fd) rfl g1a.out Hlo.out _ _ _ rfl Hcl2.out Hone.out Hn1.out Hn2.out ?_; intro v6 w6 hv hg))
        | fail)
      have hxt := Hxt.out
      have hal := Hal.out
      have hFa := HFa.out
      have hg2a := g2a.out
      rw [HoC.out] at hxt hal hFa hg2a
      have hx6 : OwnI 3 w6 wo.heap.size w5.heap.size (.slice (some ⟨gu, 0, none⟩) xw.length ku) xw :=
        ⟨ownsRow_of_block hxt.1 fun k hk => hg.block k (Own.block hxt hk).2.2 fun e => ne_of_kinds (g1a.out.kind k e.symm) (OwnI.kind hxt k hk) (by decide), hxt.2⟩
      have hF6 : OwnMp w6 bf nf D := hFa.kept hg (map_ne hFa g1a.out)
      have hO6 : OwnCd w6 w2.heap.size w6.heap.size v6 (done ++ [(xw, c)]) := by
        rw [← Hnu.out] at hxt
        exact OwnCd.snoc (m := (xw, c)) g1a.out hg2a G3.out hxt (by omega) hs5 hg (Nat.le_trans hal.size hg.size) hv
      have hgb := grownBy_below hg g1a.out.blocks (Nat.le_refl _) Hlo.out
      have hb6 : Below w.heap.size w w6 := ((Hb.out.trans (Hb5.out.mono Hb.out.size)).trans (hal.mono (by have := Hb.out.size; omega))).trans (hgb.mono hs2)
      have hsz6 : w2.heap.size ≤ w6.heap.size := Nat.le_trans Hlo.out hg.size
      rw [← Hnu.out] at hx6
      have HSc := Lib.hid (schub7_any _ xw w6 hx6.ints HS.out.wok (by rw [HS.out.wtr]; exact HS.out.w1) (by rw [HS.out.wtr]; exact HS.out.w7) (by rw [HS.out.wtr]; exact HS.out.low))
      have HF6 := Lib.hid hF6
      have HO6 := Lib.hid hO6
      have Hb6 := Lib.hid hb6
      obtain ⟨pv, lv, kv', rfl⟩ : ∃ p l k, v6 = .slice p l k := by obtain ⟨p, k, e, _⟩ := hO6.shape; exact ⟨_, _, _, e⟩
      clear hxt hal hFa hg2a hx6 hF6 hO6 hgb hb6 hg hv keq y0 y1 y2 y3 y4 y5 y6 hat hwf
      refine HSc.out.mono ?_
      rintro e w7 ⟨u7, rfl, hp7, hb7⟩
      have Hp7 := Lib.hid (hp7.mono (show 6 ≤ 24 by omega) (Nat.le_refl _))
      obtain ⟨b7, D7, rfl, _, _⟩ := hp7
      have Hb7 := Lib.hid (Hb6.out.trans (hb7.mono Hb6.out.size))
      have HF7 := Lib.hid (show PolV w7 (.map (some bf)) 24 nf P from ⟨bf, D, rfl, ownMp_below HF6.out hb7, HF2.out⟩)
      have HO7 := Lib.hid ((HO6.out.below hb7).mono (Nat.le_refl _) hb7.size)
      have hs7 := hb7.size
      have hnn : nf + 470184984576 < 1000000000000000 := by
        have hq := Hlen.out
        rw [List.length_cons] at hq
        omega
      clear hb7
      go_wp2_with fail
      refine (plus_any _ _ (-c) 24 nf 470184984576 P (schP7 xw) w7 HF7.out Hp7.out (by omega) hnn).mono ?_
      rintro e w8 ⟨u8, rfl, hp8, hb8⟩
      have Hp8 := Lib.hid (hp8.alt (Q := subN P c (symS7 xw)) fun g => Cg.of _ _ (by rw [Ev_subN, Ev_append, Ev_append, Ev_scl, Ev_scl, symS7_eq]))
      obtain ⟨b8, D8, rfl, _, _⟩ := hp8
      have Hb8 := Lib.hid (Hb7.out.trans (hb8.mono Hb7.out.size))
      have HO8 := Lib.hid ((HO7.out.below hb8).mono (Nat.le_refl _) hb8.size)
      have hs8 := hb8.size
      clear hb8
      go_wp2_with fail
      go_roundg (Lr'.length)
      case measure => rw [List.length_cons]; omega
      case rel =>
        refine ⟨subN P c (symS7 xw), done ++ [(xw, c)], Lr', nf + 470184984576, ?_, rfl, HNext.out, Hp8.out, ?_, ?_, HO8.out, Hb8.out, by omega⟩
        · show (done ++ [(xw, c)]) ++ Lr' = L
          rw [List.append_assoc]
          exact HL.out
        · rw [List.length_append]
          show nf + 470184984576 ≤ 600 + (done.length + 1) * 470184984576
          omega
        · have hq := Hlen.out
          rw [List.length_cons] at hq
          rw [List.length_append]
          show done.length + 1 + Lr'.length ≤ 90
          omega

end Go.Proofs.YtgebjjpcgakjgaaGreat

namespace Go.Proofs.YtgebjjpcgakjgaaGreat
set_option linter.all false
set_option maxRecDepth 100000

def mT1_0 : List (List Cls) := [
  [([0], 1)]]
def mT1 : List (List (List Cls)) := [mT1_0]
def mT2_0 : List (List Cls) := [
  [([0], 1)],
  [([1, 0], 1)]]
def mT2_1 : List (List Cls) := [
  [([1, 0], 1)],
  [([2, 0, 1], 1)]]
def mT2 : List (List (List Cls)) := [mT2_0, mT2_1]
def mT3_0 : List (List Cls) := [
  [([0], 1)],
  [([0, 2, 1], 1)],
  [([1, 0], 1)],
  [([1, 2, 0], 1)],
  [([2, 0, 1], 1)],
  [([2, 1, 0], 1)]]
def mT3_1 : List (List Cls) := [
  [([0, 2, 1], 1)],
  [([0, 3, 1, 2], 1), ([1, 2, 0], 1)],
  [([1, 2, 0], 1), ([2, 0, 1], 1)],
  [([1, 3, 0, 2], 1)],
  [([2, 1, 0], 1), ([3, 0, 1, 2], 1)],
  [([2, 3, 0, 1], 1), ([3, 1, 0, 2], 1)]]
def mT3_2 : List (List Cls) := [
  [([1, 0], 1)],
  [([1, 2, 0], 1), ([2, 0, 1], 1)],
  [([2, 0, 1], 1)],
  [([2, 1, 0], 1)],
  [([3, 0, 1, 2], 1)],
  [([3, 1, 0, 2], 1)]]
def mT3_3 : List (List Cls) := [
  [([1, 2, 0], 1)],
  [([1, 3, 0, 2], 1)],
  [([2, 1, 0], 1)],
  [([2, 3, 0, 1], 1)],
  [([3, 1, 0, 2], 1)],
  [([3, 2, 0, 1], 1)]]
def mT3_4 : List (List Cls) := [
  [([2, 0, 1], 1)],
  [([2, 1, 0], 1), ([3, 0, 1, 2], 1)],
  [([3, 0, 1, 2], 1)],
  [([3, 1, 0, 2], 1)],
  [([4, 0, 1, 2, 3], 1)],
  [([4, 1, 0, 2, 3], 1)]]
def mT3_5 : List (List Cls) := [
  [([2, 1, 0], 1)],
  [([2, 3, 0, 1], 1), ([3, 1, 0, 2], 1)],
  [([3, 1, 0, 2], 1)],
  [([3, 2, 0, 1], 1)],
  [([4, 1, 0, 2, 3], 1)],
  [([4, 2, 0, 1, 3], 1)]]
def mT3 : List (List (List Cls)) := [mT3_0, mT3_1, mT3_2, mT3_3, mT3_4, mT3_5]
def mT4_0 : List (List Cls) := [
  [([0], 1)],
  [([0, 1, 3, 2], 1)],
  [([0, 2, 1], 1)],
  [([0, 2, 3, 1], 1)],
  [([0, 3, 1, 2], 1)],
  [([0, 3, 2, 1], 1)],
  [([1, 0], 1)],
  [([1, 0, 3, 2], 1)],
  [([1, 2, 0], 1)],
  [([1, 2, 3, 0], 1)],
  [([1, 3, 0, 2], 1)],
  [([1, 3, 2, 0], 1)],
  [([2, 0, 1], 1)],
  [([2, 0, 3, 1], 1)],
  [([2, 1, 0], 1)],
  [([2, 1, 3, 0], 1)],
  [([2, 3, 0, 1], 1)],
  [([2, 3, 1, 0], 1)],
  [([3, 0, 1, 2], 1)],
  [([3, 0, 2, 1], 1)],
  [([3, 1, 0, 2], 1)],
  [([3, 1, 2, 0], 1)],
  [([3, 2, 0, 1], 1)],
  [([3, 2, 1, 0], 1)]]
def mT4_1 : List (List Cls) := [
  [([0, 1, 3, 2], 1)],
  [([0, 1, 4, 2, 3], 1), ([0, 2, 3, 1], 1)],
  [([0, 2, 3, 1], 1), ([0, 3, 1, 2], 1)],
  [([0, 2, 4, 1, 3], 1), ([1, 2, 3, 0], 1)],
  [([0, 3, 2, 1], 1), ([0, 4, 1, 2, 3], 1)],
  [([0, 3, 4, 1, 2], 1), ([0, 4, 2, 1, 3], 1), ([1, 3, 2, 0], 1)],
  [([1, 0, 3, 2], 1)],
  [([1, 0, 4, 2, 3], 1), ([1, 2, 3, 0], 1), ([2, 0, 3, 1], 1)],
  [([1, 2, 3, 0], 1), ([1, 3, 0, 2], 1)],
  [([1, 2, 4, 0, 3], 1)],
  [([1, 3, 2, 0], 1), ([1, 4, 0, 2, 3], 1), ([2, 3, 0, 1], 1)],
  [([1, 3, 4, 0, 2], 1), ([1, 4, 2, 0, 3], 1)],
  [([2, 0, 3, 1], 1), ([3, 0, 1, 2], 1)],
  [([2, 0, 4, 1, 3], 1), ([2, 1, 3, 0], 1)],
  [([2, 1, 3, 0], 1), ([2, 3, 0, 1], 1), ([3, 1, 0, 2], 1)],
  [([2, 1, 4, 0, 3], 1)],
  [([2, 3, 1, 0], 1), ([2, 4, 0, 1, 3], 1)],
  [([2, 3, 4, 0, 1], 1), ([2, 4, 1, 0, 3], 1)],
  [([3, 0, 2, 1], 1), ([4, 0, 1, 2, 3], 1)],
  [([3, 0, 4, 1, 2], 1), ([3, 1, 2, 0], 1), ([4, 0, 2, 1, 3], 1)],
  [([3, 1, 2, 0], 1), ([3, 2, 0, 1], 1), ([4, 1, 0, 2, 3], 1)],
  [([3, 1, 4, 0, 2], 1), ([4, 1, 2, 0, 3], 1)],
  [([3, 2, 1, 0], 1), ([3, 4, 0, 1, 2], 1), ([4, 2, 0, 1, 3], 1)],
  [([3, 2, 4, 0, 1], 1), ([3, 4, 1, 0, 2], 1), ([4, 2, 1, 0, 3], 1)]]
def mT4_2 : List (List Cls) := [
  [([0, 2, 1], 1)],
  [([0, 2, 3, 1], 1), ([0, 3, 1, 2], 1)],
  [([0, 3, 1, 2], 1), ([1, 2, 0], 1)],
  [([0, 3, 2, 1], 1), ([1, 2, 3, 0], 1)],
  [([0, 4, 1, 2, 3], 1), ([1, 3, 0, 2], 1)],
  [([0, 4, 2, 1, 3], 1), ([1, 3, 2, 0], 1), ([2, 3, 0, 1], 1)],
  [([1, 2, 0], 1), ([2, 0, 1], 1)],
  [([1, 2, 3, 0], 1), ([2, 0, 3, 1], 1), ([1, 3, 0, 2], 1), ([3, 0, 1, 2], 1)],
  [([1, 3, 0, 2], 1)],
  [([1, 3, 2, 0], 1)],
  [([1, 4, 0, 2, 3], 1), ([2, 3, 0, 1], 1)],
  [([1, 4, 2, 0, 3], 1), ([2, 3, 1, 0], 1)],
  [([2, 1, 0], 1), ([3, 0, 1, 2], 1)],
  [([2, 1, 3, 0], 1), ([3, 0, 2, 1], 1), ([2, 3, 0, 1], 1)],
  [([2, 3, 0, 1], 1), ([3, 1, 0, 2], 1)],
  [([2, 3, 1, 0], 1), ([3, 1, 2, 0], 1)],
  [([2, 4, 0, 1, 3], 1)],
  [([2, 4, 1, 0, 3], 1)],
  [([3, 1, 0, 2], 1), ([4, 0, 1, 2, 3], 1)],
  [([3, 1, 2, 0], 1), ([4, 0, 2, 1, 3], 1), ([3, 2, 0, 1], 1)],
  [([3, 2, 0, 1], 1), ([4, 1, 0, 2, 3], 1)],
  [([3, 2, 1, 0], 1), ([4, 1, 2, 0, 3], 1)],
  [([3, 4, 0, 1, 2], 1), ([4, 2, 0, 1, 3], 1)],
  [([3, 4, 1, 0, 2], 1), ([4, 2, 1, 0, 3], 1)]]
def mT4_3 : List (List Cls) := [
  [([0, 2, 3, 1], 1)],
  [([0, 2, 4, 1, 3], 1), ([1, 2, 3, 0], 1)],
  [([0, 3, 2, 1], 1), ([1, 2, 3, 0], 1)],
  [([0, 3, 4, 1, 2], 1), ([1, 2, 4, 0, 3], 1)],
  [([0, 4, 2, 1, 3], 1), ([1, 3, 2, 0], 1)],
  [([0, 4, 3, 1, 2], 1), ([1, 3, 4, 0, 2], 1), ([1, 4, 2, 0, 3], 1)],
  [([1, 2, 3, 0], 1), ([2, 0, 3, 1], 1)],
  [([1, 2, 4, 0, 3], 1), ([2, 0, 4, 1, 3], 1), ([2, 1, 3, 0], 1)],
  [([1, 3, 2, 0], 1), ([2, 3, 0, 1], 1)],
  [([1, 3, 4, 0, 2], 1)],
  [([1, 4, 2, 0, 3], 1), ([2, 3, 1, 0], 1), ([2, 4, 0, 1, 3], 1)],
  [([1, 4, 3, 0, 2], 1), ([2, 3, 4, 0, 1], 1)],
  [([2, 1, 3, 0], 1), ([3, 0, 2, 1], 1)],
  [([2, 1, 4, 0, 3], 1), ([3, 0, 4, 1, 2], 1)],
  [([2, 3, 1, 0], 1), ([3, 1, 2, 0], 1), ([3, 2, 0, 1], 1)],
  [([2, 3, 4, 0, 1], 1), ([3, 1, 4, 0, 2], 1)],
  [([2, 4, 1, 0, 3], 1), ([3, 4, 0, 1, 2], 1)],
  [([2, 4, 3, 0, 1], 1), ([3, 4, 1, 0, 2], 1)],
  [([3, 1, 2, 0], 1), ([4, 0, 2, 1, 3], 1)],
  [([3, 1, 4, 0, 2], 1), ([4, 0, 3, 1, 2], 1), ([4, 1, 2, 0, 3], 1)],
  [([3, 2, 1, 0], 1), ([4, 1, 2, 0, 3], 1), ([4, 2, 0, 1, 3], 1)],
  [([3, 2, 4, 0, 1], 1), ([4, 1, 3, 0, 2], 1)],
  [([3, 4, 1, 0, 2], 1), ([4, 2, 1, 0, 3], 1), ([4, 3, 0, 1, 2], 1)],
  [([3, 4, 2, 0, 1], 1), ([4, 2, 3, 0, 1], 1), ([4, 3, 1, 0, 2], 1)]]
def mT4_4 : List (List Cls) := [
  [([0, 3, 1, 2], 1)],
  [([0, 3, 2, 1], 1), ([0, 4, 1, 2, 3], 1)],
  [([0, 4, 1, 2, 3], 1), ([1, 3, 0, 2], 1)],
  [([0, 4, 2, 1, 3], 1), ([1, 3, 2, 0], 1)],
  [([0, 5, 1, 2, 3, 4], 1), ([1, 4, 0, 2, 3], 1), ([2, 3, 0, 1], 1)],
  [([0, 5, 2, 1, 3, 4], 1), ([1, 4, 2, 0, 3], 1), ([2, 3, 1, 0], 1), ([2, 4, 0, 1, 3], 1)],
  [([1, 3, 0, 2], 1), ([3, 0, 1, 2], 1)],
  [([1, 3, 2, 0], 1), ([3, 0, 2, 1], 1), ([1, 4, 0, 2, 3], 1), ([2, 3, 0, 1], 1), ([4, 0, 1, 2, 3], 1)],
  [([1, 4, 0, 2, 3], 1)],
  [([1, 4, 2, 0, 3], 1)],
  [([1, 5, 0, 2, 3, 4], 1), ([2, 4, 0, 1, 3], 1)],
  [([1, 5, 2, 0, 3, 4], 1), ([2, 4, 1, 0, 3], 1)],
  [([2, 3, 0, 1], 1), ([3, 1, 0, 2], 1), ([4, 0, 1, 2, 3], 1)],
  [([2, 3, 1, 0], 1), ([3, 1, 2, 0], 1), ([4, 0, 2, 1, 3], 1), ([2, 4, 0, 1, 3], 1)],
  [([2, 4, 0, 1, 3], 1), ([4, 1, 0, 2, 3], 1)],
  [([2, 4, 1, 0, 3], 1), ([4, 1, 2, 0, 3], 1)],
  [([2, 5, 0, 1, 3, 4], 1)],
  [([2, 5, 1, 0, 3, 4], 1)],
  [([3, 2, 0, 1], 1), ([4, 1, 0, 2, 3], 1), ([5, 0, 1, 2, 3, 4], 1)],
  [([3, 2, 1, 0], 1), ([4, 1, 2, 0, 3], 1), ([5, 0, 2, 1, 3, 4], 1), ([3, 4, 0, 1, 2], 1), ([4, 2, 0, 1, 3], 1)],
  [([3, 4, 0, 1, 2], 1), ([4, 2, 0, 1, 3], 1), ([5, 1, 0, 2, 3, 4], 1)],
  [([3, 4, 1, 0, 2], 1), ([4, 2, 1, 0, 3], 1), ([5, 1, 2, 0, 3, 4], 1)],
  [([3, 5, 0, 1, 2, 4], 1), ([5, 2, 0, 1, 3, 4], 1)],
  [([3, 5, 1, 0, 2, 4], 1), ([5, 2, 1, 0, 3, 4], 1)]]
def mT4_5 : List (List Cls) := [
  [([0, 3, 2, 1], 1)],
  [([0, 3, 4, 1, 2], 1), ([0, 4, 2, 1, 3], 1), ([1, 3, 2, 0], 1)],
  [([0, 4, 2, 1, 3], 1), ([1, 3, 2, 0], 1), ([2, 3, 0, 1], 1)],
  [([0, 4, 3, 1, 2], 1), ([1, 3, 4, 0, 2], 1), ([1, 4, 2, 0, 3], 1)],
  [([0, 5, 2, 1, 3, 4], 1), ([1, 4, 2, 0, 3], 1), ([2, 3, 1, 0], 1), ([2, 4, 0, 1, 3], 1)],
  [([0, 5, 3, 1, 2, 4], 1), ([1, 4, 3, 0, 2], 1), ([2, 3, 4, 0, 1], 1), ([1, 5, 2, 0, 3, 4], 1), ([2, 4, 1, 0, 3], 1), ([3, 4, 0, 1, 2], 1)],
  [([1, 3, 2, 0], 1), ([3, 0, 2, 1], 1), ([2, 3, 0, 1], 1)],
  [([1, 3, 4, 0, 2], 1), ([3, 0, 4, 1, 2], 1), ([1, 4, 2, 0, 3], 1), ([2, 3, 1, 0], 1), ([3, 1, 2, 0], 1), ([4, 0, 2, 1, 3], 1), ([2, 4, 0, 1, 3], 1)],
  [([1, 4, 2, 0, 3], 1), ([2, 4, 0, 1, 3], 1)],
  [([1, 4, 3, 0, 2], 1)],
  [([1, 5, 2, 0, 3, 4], 1), ([2, 4, 1, 0, 3], 1), ([2, 5, 0, 1, 3, 4], 1), ([3, 4, 0, 1, 2], 1)],
  [([1, 5, 3, 0, 2, 4], 1), ([2, 4, 3, 0, 1], 1), ([3, 4, 1, 0, 2], 1)],
  [([2, 3, 1, 0], 1), ([3, 1, 2, 0], 1), ([4, 0, 2, 1, 3], 1), ([3, 2, 0, 1], 1)],
  [([2, 3, 4, 0, 1], 1), ([3, 1, 4, 0, 2], 1), ([4, 0, 3, 1, 2], 1), ([2, 4, 1, 0, 3], 1), ([4, 1, 2, 0, 3], 1), ([3, 4, 0, 1, 2], 1)],
  [([2, 4, 1, 0, 3], 1), ([4, 1, 2, 0, 3], 1), ([3, 4, 0, 1, 2], 1), ([4, 2, 0, 1, 3], 1)],
  [([2, 4, 3, 0, 1], 1), ([4, 1, 3, 0, 2], 1), ([3, 4, 1, 0, 2], 1)],
  [([2, 5, 1, 0, 3, 4], 1), ([3, 5, 0, 1, 2, 4], 1)],
  [([2, 5, 3, 0, 1, 4], 1), ([3, 5, 1, 0, 2, 4], 1)],
  [([3, 2, 1, 0], 1), ([4, 1, 2, 0, 3], 1), ([5, 0, 2, 1, 3, 4], 1), ([4, 2, 0, 1, 3], 1)],
  [([3, 2, 4, 0, 1], 1), ([4, 1, 3, 0, 2], 1), ([5, 0, 3, 1, 2, 4], 1), ([3, 4, 1, 0, 2], 1), ([4, 2, 1, 0, 3], 1), ([5, 1, 2, 0, 3, 4], 1), ([4, 3, 0, 1, 2], 1)],
  [([3, 4, 1, 0, 2], 1), ([4, 2, 1, 0, 3], 1), ([5, 1, 2, 0, 3, 4], 1), ([4, 3, 0, 1, 2], 1), ([5, 2, 0, 1, 3, 4], 1)],
  [([3, 4, 2, 0, 1], 1), ([4, 2, 3, 0, 1], 1), ([5, 1, 3, 0, 2, 4], 1), ([4, 3, 1, 0, 2], 1)],
  [([3, 5, 1, 0, 2, 4], 1), ([5, 2, 1, 0, 3, 4], 1), ([4, 5, 0, 1, 2, 3], 1), ([5, 3, 0, 1, 2, 4], 1)],
  [([3, 5, 2, 0, 1, 4], 1), ([5, 2, 3, 0, 1, 4], 1), ([4, 5, 1, 0, 2, 3], 1), ([5, 3, 1, 0, 2, 4], 1)]]
def mT4_6 : List (List Cls) := [
  [([1, 0], 1)],
  [([1, 0, 3, 2], 1)],
  [([1, 2, 0], 1), ([2, 0, 1], 1)],
  [([1, 2, 3, 0], 1), ([2, 0, 3, 1], 1)],
  [([1, 3, 0, 2], 1), ([3, 0, 1, 2], 1)],
  [([1, 3, 2, 0], 1), ([3, 0, 2, 1], 1), ([2, 3, 0, 1], 1)],
  [([2, 0, 1], 1)],
  [([2, 0, 3, 1], 1), ([3, 0, 1, 2], 1)],
  [([2, 1, 0], 1)],
  [([2, 1, 3, 0], 1)],
  [([2, 3, 0, 1], 1), ([3, 1, 0, 2], 1)],
  [([2, 3, 1, 0], 1), ([3, 1, 2, 0], 1)],
  [([3, 0, 1, 2], 1)],
  [([3, 0, 2, 1], 1)],
  [([3, 1, 0, 2], 1)],
  [([3, 1, 2, 0], 1)],
  [([3, 2, 0, 1], 1)],
  [([3, 2, 1, 0], 1)],
  [([4, 0, 1, 2, 3], 1)],
  [([4, 0, 2, 1, 3], 1)],
  [([4, 1, 0, 2, 3], 1)],
  [([4, 1, 2, 0, 3], 1)],
  [([4, 2, 0, 1, 3], 1)],
  [([4, 2, 1, 0, 3], 1)]]
def mT4_7 : List (List Cls) := [
  [([1, 0, 3, 2], 1)],
  [([1, 0, 4, 2, 3], 1), ([1, 2, 3, 0], 1), ([2, 0, 3, 1], 1)],
  [([1, 2, 3, 0], 1), ([2, 0, 3, 1], 1), ([1, 3, 0, 2], 1), ([3, 0, 1, 2], 1)],
  [([1, 2, 4, 0, 3], 1), ([2, 0, 4, 1, 3], 1), ([2, 1, 3, 0], 1)],
  [([1, 3, 2, 0], 1), ([3, 0, 2, 1], 1), ([1, 4, 0, 2, 3], 1), ([2, 3, 0, 1], 1), ([4, 0, 1, 2, 3], 1)],
  [([1, 3, 4, 0, 2], 1), ([3, 0, 4, 1, 2], 1), ([1, 4, 2, 0, 3], 1), ([2, 3, 1, 0], 1), ([3, 1, 2, 0], 1), ([4, 0, 2, 1, 3], 1), ([2, 4, 0, 1, 3], 1)],
  [([2, 0, 3, 1], 1), ([3, 0, 1, 2], 1)],
  [([2, 0, 4, 1, 3], 1), ([2, 1, 3, 0], 1), ([3, 0, 2, 1], 1), ([4, 0, 1, 2, 3], 1)],
  [([2, 1, 3, 0], 1), ([2, 3, 0, 1], 1), ([3, 1, 0, 2], 1)],
  [([2, 1, 4, 0, 3], 1)],
  [([2, 3, 1, 0], 1), ([3, 1, 2, 0], 1), ([2, 4, 0, 1, 3], 1), ([3, 2, 0, 1], 1), ([4, 1, 0, 2, 3], 1)],
  [([2, 3, 4, 0, 1], 1), ([3, 1, 4, 0, 2], 1), ([2, 4, 1, 0, 3], 1), ([4, 1, 2, 0, 3], 1)],
  [([3, 0, 2, 1], 1), ([4, 0, 1, 2, 3], 1)],
  [([3, 0, 4, 1, 2], 1), ([3, 1, 2, 0], 1), ([4, 0, 2, 1, 3], 1)],
  [([3, 1, 2, 0], 1), ([3, 2, 0, 1], 1), ([4, 1, 0, 2, 3], 1)],
  [([3, 1, 4, 0, 2], 1), ([4, 1, 2, 0, 3], 1)],
  [([3, 2, 1, 0], 1), ([3, 4, 0, 1, 2], 1), ([4, 2, 0, 1, 3], 1)],
  [([3, 2, 4, 0, 1], 1), ([3, 4, 1, 0, 2], 1), ([4, 2, 1, 0, 3], 1)],
  [([4, 0, 2, 1, 3], 1), ([5, 0, 1, 2, 3, 4], 1)],
  [([4, 0, 3, 1, 2], 1), ([4, 1, 2, 0, 3], 1), ([5, 0, 2, 1, 3, 4], 1)],
  [([4, 1, 2, 0, 3], 1), ([4, 2, 0, 1, 3], 1), ([5, 1, 0, 2, 3, 4], 1)],
  [([4, 1, 3, 0, 2], 1), ([5, 1, 2, 0, 3, 4], 1)],
  [([4, 2, 1, 0, 3], 1), ([4, 3, 0, 1, 2], 1), ([5, 2, 0, 1, 3, 4], 1)],
  [([4, 2, 3, 0, 1], 1), ([4, 3, 1, 0, 2], 1), ([5, 2, 1, 0, 3, 4], 1)]]
def mT4_8 : List (List Cls) := [
  [([1, 2, 0], 1)],
  [([1, 2, 3, 0], 1), ([1, 3, 0, 2], 1)],
  [([1, 3, 0, 2], 1)],
  [([1, 3, 2, 0], 1), ([2, 3, 0, 1], 1)],
  [([1, 4, 0, 2, 3], 1)],
  [([1, 4, 2, 0, 3], 1), ([2, 4, 0, 1, 3], 1)],
  [([2, 1, 0], 1)],
  [([2, 1, 3, 0], 1), ([2, 3, 0, 1], 1), ([3, 1, 0, 2], 1)],
  [([2, 3, 0, 1], 1)],
  [([2, 3, 1, 0], 1)],
  [([2, 4, 0, 1, 3], 1)],
  [([2, 4, 1, 0, 3], 1)],
  [([3, 1, 0, 2], 1)],
  [([3, 1, 2, 0], 1), ([3, 2, 0, 1], 1)],
  [([3, 2, 0, 1], 1)],
  [([3, 2, 1, 0], 1)],
  [([3, 4, 0, 1, 2], 1)],
  [([3, 4, 1, 0, 2], 1)],
  [([4, 1, 0, 2, 3], 1)],
  [([4, 1, 2, 0, 3], 1), ([4, 2, 0, 1, 3], 1)],
  [([4, 2, 0, 1, 3], 1)],
  [([4, 2, 1, 0, 3], 1)],
  [([4, 3, 0, 1, 2], 1)],
  [([4, 3, 1, 0, 2], 1)]]
def mT4_9 : List (List Cls) := [
  [([1, 2, 3, 0], 1)],
  [([1, 2, 4, 0, 3], 1)],
  [([1, 3, 2, 0], 1)],
  [([1, 3, 4, 0, 2], 1)],
  [([1, 4, 2, 0, 3], 1)],
  [([1, 4, 3, 0, 2], 1)],
  [([2, 1, 3, 0], 1)],
  [([2, 1, 4, 0, 3], 1)],
  [([2, 3, 1, 0], 1)],
  [([2, 3, 4, 0, 1], 1)],
  [([2, 4, 1, 0, 3], 1)],
  [([2, 4, 3, 0, 1], 1)],
  [([3, 1, 2, 0], 1)],
  [([3, 1, 4, 0, 2], 1)],
  [([3, 2, 1, 0], 1)],
  [([3, 2, 4, 0, 1], 1)],
  [([3, 4, 1, 0, 2], 1)],
  [([3, 4, 2, 0, 1], 1)],
  [([4, 1, 2, 0, 3], 1)],
  [([4, 1, 3, 0, 2], 1)],
  [([4, 2, 1, 0, 3], 1)],
  [([4, 2, 3, 0, 1], 1)],
  [([4, 3, 1, 0, 2], 1)],
  [([4, 3, 2, 0, 1], 1)]]
def mT4_10 : List (List Cls) := [
  [([1, 3, 0, 2], 1)],
  [([1, 3, 2, 0], 1), ([1, 4, 0, 2, 3], 1), ([2, 3, 0, 1], 1)],
  [([1, 4, 0, 2, 3], 1), ([2, 3, 0, 1], 1)],
  [([1, 4, 2, 0, 3], 1), ([2, 3, 1, 0], 1), ([2, 4, 0, 1, 3], 1)],
  [([1, 5, 0, 2, 3, 4], 1), ([2, 4, 0, 1, 3], 1)],
  [([1, 5, 2, 0, 3, 4], 1), ([2, 4, 1, 0, 3], 1), ([2, 5, 0, 1, 3, 4], 1), ([3, 4, 0, 1, 2], 1)],
  [([2, 3, 0, 1], 1), ([3, 1, 0, 2], 1)],
  [([2, 3, 1, 0], 1), ([3, 1, 2, 0], 1), ([2, 4, 0, 1, 3], 1), ([3, 2, 0, 1], 1), ([4, 1, 0, 2, 3], 1)],
  [([2, 4, 0, 1, 3], 1)],
  [([2, 4, 1, 0, 3], 1)],
  [([2, 5, 0, 1, 3, 4], 1), ([3, 4, 0, 1, 2], 1)],
  [([2, 5, 1, 0, 3, 4], 1), ([3, 4, 1, 0, 2], 1)],
  [([3, 2, 0, 1], 1), ([4, 1, 0, 2, 3], 1)],
  [([3, 2, 1, 0], 1), ([4, 1, 2, 0, 3], 1), ([3, 4, 0, 1, 2], 1), ([4, 2, 0, 1, 3], 1)],
  [([3, 4, 0, 1, 2], 1), ([4, 2, 0, 1, 3], 1)],
  [([3, 4, 1, 0, 2], 1), ([4, 2, 1, 0, 3], 1)],
  [([3, 5, 0, 1, 2, 4], 1)],
  [([3, 5, 1, 0, 2, 4], 1)],
  [([4, 2, 0, 1, 3], 1), ([5, 1, 0, 2, 3, 4], 1)],
  [([4, 2, 1, 0, 3], 1), ([5, 1, 2, 0, 3, 4], 1), ([4, 3, 0, 1, 2], 1), ([5, 2, 0, 1, 3, 4], 1)],
  [([4, 3, 0, 1, 2], 1), ([5, 2, 0, 1, 3, 4], 1)],
  [([4, 3, 1, 0, 2], 1), ([5, 2, 1, 0, 3, 4], 1)],
  [([4, 5, 0, 1, 2, 3], 1), ([5, 3, 0, 1, 2, 4], 1)],
  [([4, 5, 1, 0, 2, 3], 1), ([5, 3, 1, 0, 2, 4], 1)]]
def mT4_11 : List (List Cls) := [
  [([1, 3, 2, 0], 1)],
  [([1, 3, 4, 0, 2], 1), ([1, 4, 2, 0, 3], 1)],
  [([1, 4, 2, 0, 3], 1), ([2, 3, 1, 0], 1)],
  [([1, 4, 3, 0, 2], 1), ([2, 3, 4, 0, 1], 1)],
  [([1, 5, 2, 0, 3, 4], 1), ([2, 4, 1, 0, 3], 1)],
  [([1, 5, 3, 0, 2, 4], 1), ([2, 4, 3, 0, 1], 1), ([3, 4, 1, 0, 2], 1)],
  [([2, 3, 1, 0], 1), ([3, 1, 2, 0], 1)],
  [([2, 3, 4, 0, 1], 1), ([3, 1, 4, 0, 2], 1), ([2, 4, 1, 0, 3], 1), ([4, 1, 2, 0, 3], 1)],
  [([2, 4, 1, 0, 3], 1)],
  [([2, 4, 3, 0, 1], 1)],
  [([2, 5, 1, 0, 3, 4], 1), ([3, 4, 1, 0, 2], 1)],
  [([2, 5, 3, 0, 1, 4], 1), ([3, 4, 2, 0, 1], 1)],
  [([3, 2, 1, 0], 1), ([4, 1, 2, 0, 3], 1)],
  [([3, 2, 4, 0, 1], 1), ([4, 1, 3, 0, 2], 1), ([3, 4, 1, 0, 2], 1)],
  [([3, 4, 1, 0, 2], 1), ([4, 2, 1, 0, 3], 1)],
  [([3, 4, 2, 0, 1], 1), ([4, 2, 3, 0, 1], 1)],
  [([3, 5, 1, 0, 2, 4], 1)],
  [([3, 5, 2, 0, 1, 4], 1)],
  [([4, 2, 1, 0, 3], 1), ([5, 1, 2, 0, 3, 4], 1)],
  [([4, 2, 3, 0, 1], 1), ([5, 1, 3, 0, 2, 4], 1), ([4, 3, 1, 0, 2], 1)],
  [([4, 3, 1, 0, 2], 1), ([5, 2, 1, 0, 3, 4], 1)],
  [([4, 3, 2, 0, 1], 1), ([5, 2, 3, 0, 1, 4], 1)],
  [([4, 5, 1, 0, 2, 3], 1), ([5, 3, 1, 0, 2, 4], 1)],
  [([4, 5, 2, 0, 1, 3], 1), ([5, 3, 2, 0, 1, 4], 1)]]
def mT4_12 : List (List Cls) := [
  [([2, 0, 1], 1)],
  [([2, 0, 3, 1], 1), ([3, 0, 1, 2], 1)],
  [([2, 1, 0], 1), ([3, 0, 1, 2], 1)],
  [([2, 1, 3, 0], 1), ([3, 0, 2, 1], 1)],
  [([2, 3, 0, 1], 1), ([3, 1, 0, 2], 1), ([4, 0, 1, 2, 3], 1)],
  [([2, 3, 1, 0], 1), ([3, 1, 2, 0], 1), ([4, 0, 2, 1, 3], 1), ([3, 2, 0, 1], 1)],
  [([3, 0, 1, 2], 1)],
  [([3, 0, 2, 1], 1), ([4, 0, 1, 2, 3], 1)],
  [([3, 1, 0, 2], 1)],
  [([3, 1, 2, 0], 1)],
  [([3, 2, 0, 1], 1), ([4, 1, 0, 2, 3], 1)],
  [([3, 2, 1, 0], 1), ([4, 1, 2, 0, 3], 1)],
  [([4, 0, 1, 2, 3], 1)],
  [([4, 0, 2, 1, 3], 1)],
  [([4, 1, 0, 2, 3], 1)],
  [([4, 1, 2, 0, 3], 1)],
  [([4, 2, 0, 1, 3], 1)],
  [([4, 2, 1, 0, 3], 1)],
  [([5, 0, 1, 2, 3, 4], 1)],
  [([5, 0, 2, 1, 3, 4], 1)],
  [([5, 1, 0, 2, 3, 4], 1)],
  [([5, 1, 2, 0, 3, 4], 1)],
  [([5, 2, 0, 1, 3, 4], 1)],
  [([5, 2, 1, 0, 3, 4], 1)]]
def mT4_13 : List (List Cls) := [
  [([2, 0, 3, 1], 1)],
  [([2, 0, 4, 1, 3], 1), ([2, 1, 3, 0], 1)],
  [([2, 1, 3, 0], 1), ([3, 0, 2, 1], 1), ([2, 3, 0, 1], 1)],
  [([2, 1, 4, 0, 3], 1), ([3, 0, 4, 1, 2], 1)],
  [([2, 3, 1, 0], 1), ([3, 1, 2, 0], 1), ([4, 0, 2, 1, 3], 1), ([2, 4, 0, 1, 3], 1)],
  [([2, 3, 4, 0, 1], 1), ([3, 1, 4, 0, 2], 1), ([4, 0, 3, 1, 2], 1), ([2, 4, 1, 0, 3], 1), ([4, 1, 2, 0, 3], 1), ([3, 4, 0, 1, 2], 1)],
  [([3, 0, 2, 1], 1)],
  [([3, 0, 4, 1, 2], 1), ([3, 1, 2, 0], 1), ([4, 0, 2, 1, 3], 1)],
  [([3, 1, 2, 0], 1), ([3, 2, 0, 1], 1)],
  [([3, 1, 4, 0, 2], 1)],
  [([3, 2, 1, 0], 1), ([4, 1, 2, 0, 3], 1), ([3, 4, 0, 1, 2], 1), ([4, 2, 0, 1, 3], 1)],
  [([3, 2, 4, 0, 1], 1), ([4, 1, 3, 0, 2], 1), ([3, 4, 1, 0, 2], 1)],
  [([4, 0, 2, 1, 3], 1)],
  [([4, 0, 3, 1, 2], 1), ([4, 1, 2, 0, 3], 1)],
  [([4, 1, 2, 0, 3], 1), ([4, 2, 0, 1, 3], 1)],
  [([4, 1, 3, 0, 2], 1)],
  [([4, 2, 1, 0, 3], 1), ([4, 3, 0, 1, 2], 1)],
  [([4, 2, 3, 0, 1], 1), ([4, 3, 1, 0, 2], 1)],
  [([5, 0, 2, 1, 3, 4], 1)],
  [([5, 0, 3, 1, 2, 4], 1), ([5, 1, 2, 0, 3, 4], 1)],
  [([5, 1, 2, 0, 3, 4], 1), ([5, 2, 0, 1, 3, 4], 1)],
  [([5, 1, 3, 0, 2, 4], 1)],
  [([5, 2, 1, 0, 3, 4], 1), ([5, 3, 0, 1, 2, 4], 1)],
  [([5, 2, 3, 0, 1, 4], 1), ([5, 3, 1, 0, 2, 4], 1)]]
def mT4_14 : List (List Cls) := [
  [([2, 1, 0], 1)],
  [([2, 1, 3, 0], 1), ([2, 3, 0, 1], 1), ([3, 1, 0, 2], 1)],
  [([2, 3, 0, 1], 1), ([3, 1, 0, 2], 1)],
  [([2, 3, 1, 0], 1), ([3, 1, 2, 0], 1), ([3, 2, 0, 1], 1)],
  [([2, 4, 0, 1, 3], 1), ([4, 1, 0, 2, 3], 1)],
  [([2, 4, 1, 0, 3], 1), ([4, 1, 2, 0, 3], 1), ([3, 4, 0, 1, 2], 1), ([4, 2, 0, 1, 3], 1)],
  [([3, 1, 0, 2], 1)],
  [([3, 1, 2, 0], 1), ([3, 2, 0, 1], 1), ([4, 1, 0, 2, 3], 1)],
  [([3, 2, 0, 1], 1)],
  [([3, 2, 1, 0], 1)],
  [([3, 4, 0, 1, 2], 1), ([4, 2, 0, 1, 3], 1)],
  [([3, 4, 1, 0, 2], 1), ([4, 2, 1, 0, 3], 1)],
  [([4, 1, 0, 2, 3], 1)],
  [([4, 1, 2, 0, 3], 1), ([4, 2, 0, 1, 3], 1)],
  [([4, 2, 0, 1, 3], 1)],
  [([4, 2, 1, 0, 3], 1)],
  [([4, 3, 0, 1, 2], 1)],
  [([4, 3, 1, 0, 2], 1)],
  [([5, 1, 0, 2, 3, 4], 1)],
  [([5, 1, 2, 0, 3, 4], 1), ([5, 2, 0, 1, 3, 4], 1)],
  [([5, 2, 0, 1, 3, 4], 1)],
  [([5, 2, 1, 0, 3, 4], 1)],
  [([5, 3, 0, 1, 2, 4], 1)],
  [([5, 3, 1, 0, 2, 4], 1)]]
def mT4_15 : List (List Cls) := [
  [([2, 1, 3, 0], 1)],
  [([2, 1, 4, 0, 3], 1)],
  [([2, 3, 1, 0], 1), ([3, 1, 2, 0], 1)],
  [([2, 3, 4, 0, 1], 1), ([3, 1, 4, 0, 2], 1)],
  [([2, 4, 1, 0, 3], 1), ([4, 1, 2, 0, 3], 1)],
  [([2, 4, 3, 0, 1], 1), ([4, 1, 3, 0, 2], 1), ([3, 4, 1, 0, 2], 1)],
  [([3, 1, 2, 0], 1)],
  [([3, 1, 4, 0, 2], 1), ([4, 1, 2, 0, 3], 1)],
  [([3, 2, 1, 0], 1)],
  [([3, 2, 4, 0, 1], 1)],
  [([3, 4, 1, 0, 2], 1), ([4, 2, 1, 0, 3], 1)],
  [([3, 4, 2, 0, 1], 1), ([4, 2, 3, 0, 1], 1)],
  [([4, 1, 2, 0, 3], 1)],
  [([4, 1, 3, 0, 2], 1)],
  [([4, 2, 1, 0, 3], 1)],
  [([4, 2, 3, 0, 1], 1)],
  [([4, 3, 1, 0, 2], 1)],
  [([4, 3, 2, 0, 1], 1)],
  [([5, 1, 2, 0, 3, 4], 1)],
  [([5, 1, 3, 0, 2, 4], 1)],
  [([5, 2, 1, 0, 3, 4], 1)],
  [([5, 2, 3, 0, 1, 4], 1)],
  [([5, 3, 1, 0, 2, 4], 1)],
  [([5, 3, 2, 0, 1, 4], 1)]]
def mT4_16 : List (List Cls) := [
  [([2, 3, 0, 1], 1)],
  [([2, 3, 1, 0], 1), ([2, 4, 0, 1, 3], 1)],
  [([2, 4, 0, 1, 3], 1)],
  [([2, 4, 1, 0, 3], 1), ([3, 4, 0, 1, 2], 1)],
  [([2, 5, 0, 1, 3, 4], 1)],
  [([2, 5, 1, 0, 3, 4], 1), ([3, 5, 0, 1, 2, 4], 1)],
  [([3, 2, 0, 1], 1)],
  [([3, 2, 1, 0], 1), ([3, 4, 0, 1, 2], 1), ([4, 2, 0, 1, 3], 1)],
  [([3, 4, 0, 1, 2], 1)],
  [([3, 4, 1, 0, 2], 1)],
  [([3, 5, 0, 1, 2, 4], 1)],
  [([3, 5, 1, 0, 2, 4], 1)],
  [([4, 2, 0, 1, 3], 1)],
  [([4, 2, 1, 0, 3], 1), ([4, 3, 0, 1, 2], 1)],
  [([4, 3, 0, 1, 2], 1)],
  [([4, 3, 1, 0, 2], 1)],
  [([4, 5, 0, 1, 2, 3], 1)],
  [([4, 5, 1, 0, 2, 3], 1)],
  [([5, 2, 0, 1, 3, 4], 1)],
  [([5, 2, 1, 0, 3, 4], 1), ([5, 3, 0, 1, 2, 4], 1)],
  [([5, 3, 0, 1, 2, 4], 1)],
  [([5, 3, 1, 0, 2, 4], 1)],
  [([5, 4, 0, 1, 2, 3], 1)],
  [([5, 4, 1, 0, 2, 3], 1)]]
def mT4_17 : List (List Cls) := [
  [([2, 3, 1, 0], 1)],
  [([2, 3, 4, 0, 1], 1), ([2, 4, 1, 0, 3], 1)],
  [([2, 4, 1, 0, 3], 1)],
  [([2, 4, 3, 0, 1], 1), ([3, 4, 1, 0, 2], 1)],
  [([2, 5, 1, 0, 3, 4], 1)],
  [([2, 5, 3, 0, 1, 4], 1), ([3, 5, 1, 0, 2, 4], 1)],
  [([3, 2, 1, 0], 1)],
  [([3, 2, 4, 0, 1], 1), ([3, 4, 1, 0, 2], 1), ([4, 2, 1, 0, 3], 1)],
  [([3, 4, 1, 0, 2], 1)],
  [([3, 4, 2, 0, 1], 1)],
  [([3, 5, 1, 0, 2, 4], 1)],
  [([3, 5, 2, 0, 1, 4], 1)],
  [([4, 2, 1, 0, 3], 1)],
  [([4, 2, 3, 0, 1], 1), ([4, 3, 1, 0, 2], 1)],
  [([4, 3, 1, 0, 2], 1)],
  [([4, 3, 2, 0, 1], 1)],
  [([4, 5, 1, 0, 2, 3], 1)],
  [([4, 5, 2, 0, 1, 3], 1)],
  [([5, 2, 1, 0, 3, 4], 1)],
  [([5, 2, 3, 0, 1, 4], 1), ([5, 3, 1, 0, 2, 4], 1)],
  [([5, 3, 1, 0, 2, 4], 1)],
  [([5, 3, 2, 0, 1, 4], 1)],
  [([5, 4, 1, 0, 2, 3], 1)],
  [([5, 4, 2, 0, 1, 3], 1)]]
def mT4_18 : List (List Cls) := [
  [([3, 0, 1, 2], 1)],
  [([3, 0, 2, 1], 1), ([4, 0, 1, 2, 3], 1)],
  [([3, 1, 0, 2], 1), ([4, 0, 1, 2, 3], 1)],
  [([3, 1, 2, 0], 1), ([4, 0, 2, 1, 3], 1)],
  [([3, 2, 0, 1], 1), ([4, 1, 0, 2, 3], 1), ([5, 0, 1, 2, 3, 4], 1)],
  [([3, 2, 1, 0], 1), ([4, 1, 2, 0, 3], 1), ([5, 0, 2, 1, 3, 4], 1), ([4, 2, 0, 1, 3], 1)],
  [([4, 0, 1, 2, 3], 1)],
  [([4, 0, 2, 1, 3], 1), ([5, 0, 1, 2, 3, 4], 1)],
  [([4, 1, 0, 2, 3], 1)],
  [([4, 1, 2, 0, 3], 1)],
  [([4, 2, 0, 1, 3], 1), ([5, 1, 0, 2, 3, 4], 1)],
  [([4, 2, 1, 0, 3], 1), ([5, 1, 2, 0, 3, 4], 1)],
  [([5, 0, 1, 2, 3, 4], 1)],
  [([5, 0, 2, 1, 3, 4], 1)],
  [([5, 1, 0, 2, 3, 4], 1)],
  [([5, 1, 2, 0, 3, 4], 1)],
  [([5, 2, 0, 1, 3, 4], 1)],
  [([5, 2, 1, 0, 3, 4], 1)],
  [([6, 0, 1, 2, 3, 4, 5], 1)],
  [([6, 0, 2, 1, 3, 4, 5], 1)],
  [([6, 1, 0, 2, 3, 4, 5], 1)],
  [([6, 1, 2, 0, 3, 4, 5], 1)],
  [([6, 2, 0, 1, 3, 4, 5], 1)],
  [([6, 2, 1, 0, 3, 4, 5], 1)]]
def mT4_19 : List (List Cls) := [
  [([3, 0, 2, 1], 1)],
  [([3, 0, 4, 1, 2], 1), ([3, 1, 2, 0], 1), ([4, 0, 2, 1, 3], 1)],
  [([3, 1, 2, 0], 1), ([4, 0, 2, 1, 3], 1), ([3, 2, 0, 1], 1)],
  [([3, 1, 4, 0, 2], 1), ([4, 0, 3, 1, 2], 1), ([4, 1, 2, 0, 3], 1)],
  [([3, 2, 1, 0], 1), ([4, 1, 2, 0, 3], 1), ([5, 0, 2, 1, 3, 4], 1), ([3, 4, 0, 1, 2], 1), ([4, 2, 0, 1, 3], 1)],
  [([3, 2, 4, 0, 1], 1), ([4, 1, 3, 0, 2], 1), ([5, 0, 3, 1, 2, 4], 1), ([3, 4, 1, 0, 2], 1), ([4, 2, 1, 0, 3], 1), ([5, 1, 2, 0, 3, 4], 1), ([4, 3, 0, 1, 2], 1)],
  [([4, 0, 2, 1, 3], 1)],
  [([4, 0, 3, 1, 2], 1), ([4, 1, 2, 0, 3], 1), ([5, 0, 2, 1, 3, 4], 1)],
  [([4, 1, 2, 0, 3], 1), ([4, 2, 0, 1, 3], 1)],
  [([4, 1, 3, 0, 2], 1)],
  [([4, 2, 1, 0, 3], 1), ([5, 1, 2, 0, 3, 4], 1), ([4, 3, 0, 1, 2], 1), ([5, 2, 0, 1, 3, 4], 1)],
  [([4, 2, 3, 0, 1], 1), ([5, 1, 3, 0, 2, 4], 1), ([4, 3, 1, 0, 2], 1)],
  [([5, 0, 2, 1, 3, 4], 1)],
  [([5, 0, 3, 1, 2, 4], 1), ([5, 1, 2, 0, 3, 4], 1)],
  [([5, 1, 2, 0, 3, 4], 1), ([5, 2, 0, 1, 3, 4], 1)],
  [([5, 1, 3, 0, 2, 4], 1)],
  [([5, 2, 1, 0, 3, 4], 1), ([5, 3, 0, 1, 2, 4], 1)],
  [([5, 2, 3, 0, 1, 4], 1), ([5, 3, 1, 0, 2, 4], 1)],
  [([6, 0, 2, 1, 3, 4, 5], 1)],
  [([6, 0, 3, 1, 2, 4, 5], 1), ([6, 1, 2, 0, 3, 4, 5], 1)],
  [([6, 1, 2, 0, 3, 4, 5], 1), ([6, 2, 0, 1, 3, 4, 5], 1)],
  [([6, 1, 3, 0, 2, 4, 5], 1)],
  [([6, 2, 1, 0, 3, 4, 5], 1), ([6, 3, 0, 1, 2, 4, 5], 1)],
  [([6, 2, 3, 0, 1, 4, 5], 1), ([6, 3, 1, 0, 2, 4, 5], 1)]]
def mT4_20 : List (List Cls) := [
  [([3, 1, 0, 2], 1)],
  [([3, 1, 2, 0], 1), ([3, 2, 0, 1], 1), ([4, 1, 0, 2, 3], 1)],
  [([3, 2, 0, 1], 1), ([4, 1, 0, 2, 3], 1)],
  [([3, 2, 1, 0], 1), ([4, 1, 2, 0, 3], 1), ([4, 2, 0, 1, 3], 1)],
  [([3, 4, 0, 1, 2], 1), ([4, 2, 0, 1, 3], 1), ([5, 1, 0, 2, 3, 4], 1)],
  [([3, 4, 1, 0, 2], 1), ([4, 2, 1, 0, 3], 1), ([5, 1, 2, 0, 3, 4], 1), ([4, 3, 0, 1, 2], 1), ([5, 2, 0, 1, 3, 4], 1)],
  [([4, 1, 0, 2, 3], 1)],
  [([4, 1, 2, 0, 3], 1), ([4, 2, 0, 1, 3], 1), ([5, 1, 0, 2, 3, 4], 1)],
  [([4, 2, 0, 1, 3], 1)],
  [([4, 2, 1, 0, 3], 1)],
  [([4, 3, 0, 1, 2], 1), ([5, 2, 0, 1, 3, 4], 1)],
  [([4, 3, 1, 0, 2], 1), ([5, 2, 1, 0, 3, 4], 1)],
  [([5, 1, 0, 2, 3, 4], 1)],
  [([5, 1, 2, 0, 3, 4], 1), ([5, 2, 0, 1, 3, 4], 1)],
  [([5, 2, 0, 1, 3, 4], 1)],
  [([5, 2, 1, 0, 3, 4], 1)],
  [([5, 3, 0, 1, 2, 4], 1)],
  [([5, 3, 1, 0, 2, 4], 1)],
  [([6, 1, 0, 2, 3, 4, 5], 1)],
  [([6, 1, 2, 0, 3, 4, 5], 1), ([6, 2, 0, 1, 3, 4, 5], 1)],
  [([6, 2, 0, 1, 3, 4, 5], 1)],
  [([6, 2, 1, 0, 3, 4, 5], 1)],
  [([6, 3, 0, 1, 2, 4, 5], 1)],
  [([6, 3, 1, 0, 2, 4, 5], 1)]]
def mT4_21 : List (List Cls) := [
  [([3, 1, 2, 0], 1)],
  [([3, 1, 4, 0, 2], 1), ([4, 1, 2, 0, 3], 1)],
  [([3, 2, 1, 0], 1), ([4, 1, 2, 0, 3], 1)],
  [([3, 2, 4, 0, 1], 1), ([4, 1, 3, 0, 2], 1)],
  [([3, 4, 1, 0, 2], 1), ([4, 2, 1, 0, 3], 1), ([5, 1, 2, 0, 3, 4], 1)],
  [([3, 4, 2, 0, 1], 1), ([4, 2, 3, 0, 1], 1), ([5, 1, 3, 0, 2, 4], 1), ([4, 3, 1, 0, 2], 1)],
  [([4, 1, 2, 0, 3], 1)],
  [([4, 1, 3, 0, 2], 1), ([5, 1, 2, 0, 3, 4], 1)],
  [([4, 2, 1, 0, 3], 1)],
  [([4, 2, 3, 0, 1], 1)],
  [([4, 3, 1, 0, 2], 1), ([5, 2, 1, 0, 3, 4], 1)],
  [([4, 3, 2, 0, 1], 1), ([5, 2, 3, 0, 1, 4], 1)],
  [([5, 1, 2, 0, 3, 4], 1)],
  [([5, 1, 3, 0, 2, 4], 1)],
  [([5, 2, 1, 0, 3, 4], 1)],
  [([5, 2, 3, 0, 1, 4], 1)],
  [([5, 3, 1, 0, 2, 4], 1)],
  [([5, 3, 2, 0, 1, 4], 1)],
  [([6, 1, 2, 0, 3, 4, 5], 1)],
  [([6, 1, 3, 0, 2, 4, 5], 1)],
  [([6, 2, 1, 0, 3, 4, 5], 1)],
  [([6, 2, 3, 0, 1, 4, 5], 1)],
  [([6, 3, 1, 0, 2, 4, 5], 1)],
  [([6, 3, 2, 0, 1, 4, 5], 1)]]
def mT4_22 : List (List Cls) := [
  [([3, 2, 0, 1], 1)],
  [([3, 2, 1, 0], 1), ([3, 4, 0, 1, 2], 1), ([4, 2, 0, 1, 3], 1)],
  [([3, 4, 0, 1, 2], 1), ([4, 2, 0, 1, 3], 1)],
  [([3, 4, 1, 0, 2], 1), ([4, 2, 1, 0, 3], 1), ([4, 3, 0, 1, 2], 1)],
  [([3, 5, 0, 1, 2, 4], 1), ([5, 2, 0, 1, 3, 4], 1)],
  [([3, 5, 1, 0, 2, 4], 1), ([5, 2, 1, 0, 3, 4], 1), ([4, 5, 0, 1, 2, 3], 1), ([5, 3, 0, 1, 2, 4], 1)],
  [([4, 2, 0, 1, 3], 1)],
  [([4, 2, 1, 0, 3], 1), ([4, 3, 0, 1, 2], 1), ([5, 2, 0, 1, 3, 4], 1)],
  [([4, 3, 0, 1, 2], 1)],
  [([4, 3, 1, 0, 2], 1)],
  [([4, 5, 0, 1, 2, 3], 1), ([5, 3, 0, 1, 2, 4], 1)],
  [([4, 5, 1, 0, 2, 3], 1), ([5, 3, 1, 0, 2, 4], 1)],
  [([5, 2, 0, 1, 3, 4], 1)],
  [([5, 2, 1, 0, 3, 4], 1), ([5, 3, 0, 1, 2, 4], 1)],
  [([5, 3, 0, 1, 2, 4], 1)],
  [([5, 3, 1, 0, 2, 4], 1)],
  [([5, 4, 0, 1, 2, 3], 1)],
  [([5, 4, 1, 0, 2, 3], 1)],
  [([6, 2, 0, 1, 3, 4, 5], 1)],
  [([6, 2, 1, 0, 3, 4, 5], 1), ([6, 3, 0, 1, 2, 4, 5], 1)],
  [([6, 3, 0, 1, 2, 4, 5], 1)],
  [([6, 3, 1, 0, 2, 4, 5], 1)],
  [([6, 4, 0, 1, 2, 3, 5], 1)],
  [([6, 4, 1, 0, 2, 3, 5], 1)]]
def mT4_23 : List (List Cls) := [
  [([3, 2, 1, 0], 1)],
  [([3, 2, 4, 0, 1], 1), ([3, 4, 1, 0, 2], 1), ([4, 2, 1, 0, 3], 1)],
  [([3, 4, 1, 0, 2], 1), ([4, 2, 1, 0, 3], 1)],
  [([3, 4, 2, 0, 1], 1), ([4, 2, 3, 0, 1], 1), ([4, 3, 1, 0, 2], 1)],
  [([3, 5, 1, 0, 2, 4], 1), ([5, 2, 1, 0, 3, 4], 1)],
  [([3, 5, 2, 0, 1, 4], 1), ([5, 2, 3, 0, 1, 4], 1), ([4, 5, 1, 0, 2, 3], 1), ([5, 3, 1, 0, 2, 4], 1)],
  [([4, 2, 1, 0, 3], 1)],
  [([4, 2, 3, 0, 1], 1), ([4, 3, 1, 0, 2], 1), ([5, 2, 1, 0, 3, 4], 1)],
  [([4, 3, 1, 0, 2], 1)],
  [([4, 3, 2, 0, 1], 1)],
  [([4, 5, 1, 0, 2, 3], 1), ([5, 3, 1, 0, 2, 4], 1)],
  [([4, 5, 2, 0, 1, 3], 1), ([5, 3, 2, 0, 1, 4], 1)],
  [([5, 2, 1, 0, 3, 4], 1)],
  [([5, 2, 3, 0, 1, 4], 1), ([5, 3, 1, 0, 2, 4], 1)],
  [([5, 3, 1, 0, 2, 4], 1)],
  [([5, 3, 2, 0, 1, 4], 1)],
  [([5, 4, 1, 0, 2, 3], 1)],
  [([5, 4, 2, 0, 1, 3], 1)],
  [([6, 2, 1, 0, 3, 4, 5], 1)],
  [([6, 2, 3, 0, 1, 4, 5], 1), ([6, 3, 1, 0, 2, 4, 5], 1)],
  [([6, 3, 1, 0, 2, 4, 5], 1)],
  [([6, 3, 2, 0, 1, 4, 5], 1)],
  [([6, 4, 1, 0, 2, 3, 5], 1)],
  [([6, 4, 2, 0, 1, 3, 5], 1)]]
def mT4 : List (List (List Cls)) := [mT4_0, mT4_1, mT4_2, mT4_3, mT4_4, mT4_5, mT4_6, mT4_7, mT4_8, mT4_9, mT4_10, mT4_11, mT4_12, mT4_13, mT4_14, mT4_15, mT4_16, mT4_17, mT4_18, mT4_19, mT4_20, mT4_21, mT4_22, mT4_23]
def mT : Nat → List (List (List Cls))
  | 1 => mT1
  | 2 => mT2
  | 3 => mT3
  | _ => mT4

end Go.Proofs.YtgebjjpcgakjgaaGreat

namespace Go.Proofs.YtgebjjpcgakjgaaGreat
set_option linter.all false
open Go.RowKit

def shAt (xs : List Int) (j : Nat) : Prop := 1 ≤ xs.getD j 0 ∧ xs.getD j 0 ≤ 16 ∧ (0 < j → xs.getD j 0 ≤ xs.getD (j - 1) 0)
instance (xs : List Int) (j : Nat) : Decidable (shAt xs j) := by unfold shAt; exact inferInstance
/-- numbers from 1 to 16, at most 16 of them, that do not grow -/
def shOk (xs : List Int) : Bool := decide (xs.length ≤ 16 ∧ ∀ j, j < xs.length → shAt xs j)
theorem shOk_no {xs : List Int} {j : Nat} (hj : j < xs.length) (h : ¬ shAt xs j) : shOk xs = false := by
  unfold shOk
  exact decide_eq_false fun e => h (e.2 j hj)
theorem shOk_len {xs : List Int} (h : ¬ xs.length ≤ 16) : shOk xs = false := by
  unfold shOk
  exact decide_eq_false fun e => h e.1
theorem shOk_yes {xs : List Int} (h : xs.length ≤ 16) (hj : ∀ j, j < xs.length → shAt xs j) : shOk xs = true := by
  unfold shOk
  exact decide_eq_true ⟨h, hj⟩
theorem shOk_facts {xs : List Int} (h : shOk xs = true) : xs.length ≤ 16 ∧ ∀ j, j < xs.length → shAt xs j := by
  unfold shOk at h
  exact of_decide_eq_true h

end Go.Proofs.YtgebjjpcgakjgaaGreat

namespace Go.Proofs.YtgebjjpcgakjgaaGreat
set_option linter.all false
open Go.RowKit

/-- a shape in the box of r rows and c - r columns -/
def bxOk (xs : List Int) (r c : Nat) : Bool := shOk xs && decide (xs.length ≤ r) && decide (xs.getD 0 0 ≤ (c : Int) - (r : Int))
theorem bx_no1 {xs : List Int} {r c : Nat} (h : shOk xs = false) : bxOk xs r c = false := by simp [bxOk, h]
theorem bx_no2 {xs : List Int} {r c : Nat} (h : ¬ xs.length ≤ r) : bxOk xs r c = false := by simp [bxOk, h]
theorem bx_end {xs : List Int} {r c : Nat} (h : shOk xs = true) (h2 : xs.length ≤ r) : bxOk xs r c = decide (xs.getD 0 0 ≤ (c : Int) - (r : Int)) := by simp only [bxOk, h, h2, decide_true, Bool.and_true, Bool.true_and]

end Go.Proofs.YtgebjjpcgakjgaaGreat

namespace Go.Proofs.YtgebjjpcgakjgaaGreat
set_option linter.all false
open Go.RowKit

/-- the fields of matrices, the numbers' slices being f -/
def mxF (ms : List Mx) (f : Nat → Value) (i j : Nat) : Value :=
  match j with
  | 0 => .int .i64 (ms.getD i mxZero).P
  | 1 => .int .i64 (ms.getD i mxZero).R
  | 2 => .int .i64 (ms.getD i mxZero).C
  | _ => f i
/-- a slice of matrices that reads as a list -/
def RdMs (w : World) (v : Value) (ms : List Mx) : Prop := ∃ f, RdS w 4 v ms.length (mxF ms f) ∧ ∀ i, i < ms.length → Ints w (f i) (ms.getD i mxZero).D
theorem RdMs.below {w w' : World} {v : Value} {ms : List Mx} (h : RdMs w v ms) (hb : Below w.heap.size w w') : RdMs w' v ms := by
  obtain ⟨f, h1, h2⟩ := h
  exact ⟨f, h1.below hb, fun i hi => (h2 i hi).below hb⟩
theorem RdMs.qt {w w' : World} {v : Value} {ms : List Mx} (h : RdMs w v ms) (q : Qt w w') : RdMs w' v ms := h.below (q.below _)
namespace OwnMs
variable {w w' : World} {lo hi : Nat} {v : Value} {ms : List Mx}
end OwnMs

/-- where the i-th matrix lies -/
theorem RdS.four {w : World} {v : Value} {ms : List Mx} {f : Nat → Value} (h : RdS w 4 v ms.length (mxF ms f)) : ∃ p cap, v = .slice p ms.length cap ∧ (ms.length ≤ cap ∧ cap ≤ maxLen) ∧
    (0 < ms.length → ∃ b, p = some ⟨b, 0, none⟩ ∧ ∀ i, i < ms.length → w.cell? ⟨b, i * 4, none⟩ = some (.int .i64 (ms.getD i mxZero).P) ∧ w.cell? ⟨b, i * 4 + 1, none⟩ = some (.int .i64 (ms.getD i mxZero).R) ∧ w.cell? ⟨b, i * 4 + 2, none⟩ = some (.int .i64 (ms.getD i mxZero).C) ∧ w.cell? ⟨b, i * 4 + 3, none⟩ = some (f i)) := by
  obtain ⟨p, cap, rfl, hm, h⟩ := h
  refine ⟨p, cap, rfl, hm, fun h0 => ?_⟩
  obtain ⟨b, hp, hx⟩ := h h0
  exact ⟨b, hp, fun i hi => ⟨hx i hi 0 (by omega), hx i hi 1 (by omega), hx i hi 2 (by omega), hx i hi 3 (by omega)⟩⟩

/-- how many numbers the first k matrices have, three besides for each -/
def preM (ms : List Mx) (k : Nat) : Nat := ((ms.take k).map fun m => 3 + m.D.length).sum
theorem preM_zero (ms : List Mx) : preM ms 0 = 0 := by simp [preM]
theorem preM_succ (ms : List Mx) (k : Nat) (h : k < ms.length) : preM ms (k + 1) = preM ms k + (3 + (ms.getD k mxZero).D.length) := by
  have e : ms[k]? = some (ms.getD k mxZero) := by rw [List.getD_eq_getElem?_getD, List.getElem?_eq_getElem h]; rfl
  unfold preM
  rw [List.take_add_one, e, List.map_append, List.sum_append]
  simp
theorem preM_le (ms : List Mx) (k : Nat) : preM ms k ≤ preM ms ms.length := by
  have e : (ms.map fun m => 3 + m.D.length).sum = ((ms.take k).map fun m => 3 + m.D.length).sum + ((ms.drop k).map fun m => 3 + m.D.length).sum := by
    rw [← List.sum_append, ← List.map_append, List.take_append_drop]
  unfold preM
  rw [List.take_of_length_le (Nat.le_refl _)]
  omega
/-- a matrix written over by m, m+1, .. -/
def runMx (m : Int) (n : Nat) : Mx := ⟨m, m + 1, m + 2, runs (m + 3) n⟩
def runsMs (m : Int) (ms : List Mx) : List Mx := (List.range ms.length).map fun i => runMx (m + preM ms i) (ms.getD i mxZero).D.length
theorem length_runsMs (m : Int) (ms : List Mx) : (runsMs m ms).length = ms.length := by simp [runsMs]
theorem getD_runsMs (m : Int) (ms : List Mx) {i : Nat} (h : i < ms.length) : (runsMs m ms).getD i mxZero = runMx (m + preM ms i) (ms.getD i mxZero).D.length := by
  simp [runsMs, List.getD_eq_getElem?_getD, h]
/-- the first k are marked -/
def markF (m : Int) (ms : List Mx) (f : Nat → Value) (k i j : Nat) : Value := if i < k then mxF (runsMs m ms) f i j else mxF ms f i j
theorem markF_next (m : Int) (ms : List Mx) (f : Nat → Value) {k : Nat} (hk : k < ms.length) : ∀ i, i < ms.length → ∀ j, j < 4 →
    (if i = k ∧ j = 2 then Value.int .i64 (m + preM ms k + 1 + 1) else if i = k ∧ j = 1 then .int .i64 (m + preM ms k + 1) else if i = k ∧ j = 0 then .int .i64 (m + preM ms k) else markF m ms f k i j) = markF m ms f (k + 1) i j := by
  intro i hi j hj
  unfold markF
  by_cases e : i = k
  · subst e
    rw [if_pos (show i < i + 1 by omega), if_neg (Nat.lt_irrefl i)]
    unfold mxF
    rw [getD_runsMs m ms hk]
    match j, hj with
    | 0, _ => simp [runMx]
    | 1, _ => simp [runMx]
    | 2, _ => simp [runMx]; omega
    | 3, _ => simp
  · simp only [e, false_and, if_false]
    by_cases h : i < k
    · rw [if_pos h, if_pos (by omega)]
    · rw [if_neg h, if_neg (by omega)]

end Go.Proofs.YtgebjjpcgakjgaaGreat

namespace Go.Proofs.YtgebjjpcgakjgaaGreat
set_option linter.all false
open Go.RowKit

/-- the numbers behind j steps: from the last place down, the digits of x -/
def fillSt (p : Nat) (D : List Int) (free : List Nat) (x : Nat) : Nat → List Int × Nat
  | 0 => (D, x)
  | j + 1 => ((fillSt p D free x j).1.set (free.getD (free.length - 1 - j) 0) (((fillSt p D free x j).2 % p : Nat) : Int), (fillSt p D free x j).2 / p)
theorem fillSt_length (p : Nat) (D : List Int) (free : List Nat) (x : Nat) : ∀ j, (fillSt p D free x j).1.length = D.length
  | 0 => rfl
  | j + 1 => by simp [fillSt, fillSt_length p D free x j]
theorem fillSt_le (p : Nat) (D : List Int) (free : List Nat) (x : Nat) : ∀ j, (fillSt p D free x j).2 ≤ x
  | 0 => Nat.le_refl _
  | j + 1 => Nat.le_trans (Nat.div_le_self _ _) (fillSt_le p D free x j)
/-- the first n matrices -/
def fillMs (p : Nat) (R C : Int) (D : List Int) (free : List Nat) (n : Nat) : List Mx := (List.range n).map fun x => ⟨p, R, C, (fillSt p D free x free.length).1⟩
theorem fillMs_length (p : Nat) (R C : Int) (D : List Int) (free : List Nat) (n : Nat) : (fillMs p R C D free n).length = n := by simp [fillMs]
theorem fillMs_succ (p : Nat) (R C : Int) (D : List Int) (free : List Nat) (n : Nat) : fillMs p R C D free (n + 1) = fillMs p R C D free n ++ [⟨p, R, C, (fillSt p D free n free.length).1⟩] := by
  simp [fillMs, List.range_succ]
/-- places, as numbers -/
def nats (l : List Nat) : List Int := l.map fun (x : Nat) => (x : Int)
theorem nats_length (l : List Nat) : (nats l).length = l.length := by simp [nats]
theorem nats_getD (l : List Nat) {i : Nat} (h : i < l.length) : (nats l).getD i 0 = (l.getD i 0 : Nat) := by simp [nats, List.getD_eq_getElem?_getD, h]
theorem nats_snoc (l : List Nat) (x : Nat) : nats (l ++ [x]) = nats l ++ [(x : Int)] := by simp [nats]

theorem OwnI.setI {T : TypeId} {w : World} {lo hi g n cap t : Nat} {D : List Int} (h : OwnI T w lo hi (.slice (some ⟨g, 0, none⟩) n cap) D) (ht : t < D.length) (x : Int) : OwnI T (w.setCell ⟨g, t, none⟩ (.int .i64 x)) lo hi (.slice (some ⟨g, 0, none⟩) n cap) (D.set t x) := by
  refine OwnF.ints ?_
  rw [List.length_set]
  refine (h.fn.set t _).congr fun j hj => ?_
  unfold iv
  by_cases e : j = t
  · subst e; simp [List.getD_eq_getElem?_getD, ht]
  · simp [e, List.getD_eq_getElem?_getD, List.getElem?_set_ne (fun h => e h.symm)]
theorem mul_hid (a b : Nat) (h : a * b ≤ 1000000000000000000) : ∃ N, N = a * b ∧ Hid (wrap64 ((a : Int) * (b : Int)) = (N : Int)) ∧ Hid (IntKind.i64.wrap ((a : Int) * (b : Int)) = (N : Int)) := mul_named a b h

theorem free_at {D : List Int} {free : List Nat} (hb : ∀ t ∈ free, t < D.length) {i : Nat} (h : i < free.length) : free.getD i 0 < D.length := by
  rw [List.getD_eq_getElem?_getD, List.getElem?_eq_getElem h]
  exact hb _ (List.getElem_mem h)
theorem powE {p k n : Nat} (h2 : 2 ≤ p) (h : p ^ n ≤ 400) (hk : k ≤ n) : p ^ k ≤ 400 := Nat.le_trans (Nat.pow_le_pow_right (by omega) hk) h

end Go.Proofs.YtgebjjpcgakjgaaGreat
