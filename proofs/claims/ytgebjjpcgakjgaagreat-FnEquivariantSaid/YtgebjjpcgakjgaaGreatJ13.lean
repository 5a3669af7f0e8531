/-
  times: the product of two polynomials.
  Polynomials taken apart into Schubert polynomials. Plain.
  open: a polynomial of its terms.
  first: the first key of a polynomial.
  Classes that a call made, each permutation in a block of its own.
-/
import Derived.Test.YtgebjjpcgakjgaaGreatJ6
import Derived.Test.YtgebjjpcgakjgaaGreatJ12
import Derived.Test.YtgebjjpcgakjgaaGreatJ10
import Derived.StillTailTactics
import Derived.BigQuiet
import Derived.Laws.Rows
import Derived.Test.YtgebjjpcgakjgaaGreatJ4
namespace Go.Proofs.YtgebjjpcgakjgaaGreat
set_option linter.all false
set_option maxRecDepth 100000
open Go.RowKit Go.Maps Go.WideMaps Go.WideElems Go.MapKept Go.ChangeMaps Go.ChangeShapes

def addE (x y : List Int) : List Int := (List.range 7).map fun j => x.getD j 0 + y.getD j 0
def mulP (P Q : Pl) : Pl := P.flatMap fun p => Q.map fun q => (addE p.1 q.1, p.2 * q.2)
theorem Ev_mapQ (p : List Int × Int) (g : List Int → Int) : ∀ Q : Pl, Ev (Q.map fun q => (addE p.1 q.1, p.2 * q.2)) g = p.2 * Ev Q fun b => g (addE p.1 b)
  | [] => by simp [Ev]
  | q :: Q => by
    have ih := Ev_mapQ p g Q
    show p.2 * q.2 * g (addE p.1 q.1) + Ev (Q.map fun q => (addE p.1 q.1, p.2 * q.2)) g = p.2 * (q.2 * g (addE p.1 q.1) + Ev Q fun b => g (addE p.1 b))
    rw [ih, Int.mul_add, Int.mul_assoc]
theorem Ev_mulP (g : List Int → Int) (Q : Pl) : ∀ P : Pl, Ev (mulP P Q) g = Ev P fun a => Ev Q fun b => g (addE a b)
  | [] => rfl
  | p :: P => by
    have ih := Ev_mulP g Q P
    show Ev ((Q.map fun q => (addE p.1 q.1, p.2 * q.2)) ++ mulP P Q) g = p.2 * (Ev Q fun b => g (addE p.1 b)) + Ev P fun a => Ev Q fun b => g (addE a b)
    rw [Ev_append, ih, Ev_mapQ]
def mixL (x y : List Int) (i : Nat) : List Int := (List.range 7).map fun j => if j < i then x.getD j 0 + y.getD j 0 else x.getD j 0
theorem mixL_length (x y : List Int) (i : Nat) : (mixL x y i).length = 7 := by simp [mixL]
theorem mixL_getD {x y : List Int} {i j : Nat} (hj : j < 7) : (mixL x y i).getD j 0 = if j < i then x.getD j 0 + y.getD j 0 else x.getD j 0 := by
  simp [mixL, List.getD_eq_getElem?_getD, hj]
theorem mixL_succ {x y : List Int} {i : Nat} (hi : i < 7) : (mixL x y i).set i (x.getD i 0 + y.getD i 0) = mixL x y (i + 1) := by
  refine getD_eq_list (by rw [List.length_set, mixL_length, mixL_length]) fun j hj => ?_
  rw [List.length_set, mixL_length] at hj
  rw [mixL_getD hj, List.getD_eq_getElem?_getD, List.getElem?_set, mixL_length]
  by_cases e : i = j
  · subst e
    simp [hj]
  · rw [if_neg e, ← List.getD_eq_getElem?_getD, mixL_getD hj]
    by_cases h : j < i
    · rw [if_pos h, if_pos (by omega)]
    · rw [if_neg h, if_neg (by omega)]
theorem mixL_seven (x y : List Int) : mixL x y 7 = addE x y := by
  unfold mixL addE
  refine List.map_congr_left fun j hj => ?_
  rw [if_pos (List.mem_range.1 hj)]
def ArT (T : TypeId) (w : World) (g : Nat) (a : List Int) : Prop := w.heap[g]? = some (.cells (ivs a).toArray T (0, 0))
theorem ArT.cell {T : TypeId} {w : World} {g : Nat} {a : List Int} (h : ArT T w g a) {j : Nat} (hj : j < a.length) : w.cell? ⟨g, j, none⟩ = some (.int .i64 (a.getD j 0)) :=
  cell_of_blk h (by rw [List.getElem?_toArray, getElem?_ivs a j hj]; rfl)
theorem ArT.set {T : TypeId} {w : World} {g : Nat} {a : List Int} (h : ArT T w g a) (j : Nat) (x : Int) : ArT T (w.setCell ⟨g, j, none⟩ (.int .i64 x)) g (a.set j x) := by
  unfold ArT
  rw [heap_setCell_at h]
  congr 2
  unfold ivs
  rw [List.map_set]
  simp
theorem K7.addE {d : Nat} {x y : List Int} (hx : K7 d x) (hy : K7 d y) : K7 (d + d) (addE x y) := by
  refine ⟨by simp [Go.Proofs.YtgebjjpcgakjgaaGreat.addE], fun z hz => ?_⟩
  unfold Go.Proofs.YtgebjjpcgakjgaaGreat.addE at hz
  obtain ⟨j, hj, rfl⟩ := List.mem_map.1 hz
  have hj := List.mem_range.1 hj
  have hmx : x.getD j 0 ∈ x := by rw [getD_lt (by rw [hx.1]; exact hj)]; exact List.getElem_mem _
  have hmy : y.getD j 0 ∈ y := by rw [getD_lt (by rw [hy.1]; exact hj)]; exact List.getElem_mem _
  have a := hx.2 _ hmx
  have b := hy.2 _ hmy
  omega
theorem K7.rng {d : Nat} {x : List Int} (h : K7 d x) (j : Nat) : 0 ≤ x.getD j 0 ∧ x.getD j 0 ≤ (d : Int) := by
  by_cases e : j < x.length
  · have : x.getD j 0 ∈ x := by rw [getD_lt e]; exact List.getElem_mem _
    exact h.2 _ this
  · rw [List.getD_eq_getElem?_getD, List.getElem?_eq_none (by omega)]
    show (0 : Int) ≤ 0 ∧ (0 : Int) ≤ (d : Int)
    omega

theorem frm_gb {q : Nat} {w w' : World} (h : Frm q (q + 1) w w') : w.grownBy w' (some q) := ⟨h.os, h.tape, h.output, h.size, fun i hi hne => h.block i hi (by
  have : i ≠ q := fun e => hne (by rw [e])
  omega)⟩
theorem addE_lit (x y : List Int) : ∃ s0 s1 s2 s3 s4 s5 s6 : Int, addE x y = [s0, s1, s2, s3, s4, s5, s6] := ⟨_, _, _, _, _, _, _, rfl⟩

set_option maxHeartbeats 8000000 in
theorem times_any (u v : Value) (d nf ng : Nat) (P Q : Pl) (w : World) (hf : PolV w u d nf P) (hg : PolV w v d ng Q) (hd : d ≤ 1000) (hn : nf * ng < 1000000000000000) (hn2 : nf < 1000000000000000) :
    Calls Tryz.prog 48 #[u, v] w fun e w' => ∃ u', e = .returned u' ∧ PolV w' u' (d + d) (nf * ng) (mulP P Q) ∧ Below w.heap.size w w' := by
  obtain ⟨bf, Df, rfl, hf1, hf2⟩ := hf
  obtain ⟨bg, Dg, rfl, hg1, hg2⟩ := hg
  have hmm := @run_makeMap Tryz.prog
  have hblf := hf1.lt
  have hblg := hg1.lt
  have hszf := hf1.size_le
  have hszg := hg1.size_le
  have e1 : (w.alloc (.map #[] 0)).heap.size = w.heap.size + 1 := by simp
  have HF2 := Lib.hid hf2
  have HG2 := Lib.hid hg2
  have Hg1 := Lib.hid hg1
  obtain ⟨B, hB⟩ : ∃ B, B = w.heap.size := ⟨_, rfl⟩
  have HB := Lib.hid hB
  have hG0 := Lib.hid (Gath.start (T := fun g a => Ev Q fun b => g (addE a b)) hf1 hf2)
  clear hf2 hg2
  go_enter Tryz.func48, Tryz.ntmps48
  go_wp2_with (first
    | (at_range; refine wpList_range_own _ rfl _ 61 rfl 75 3 klaw und41 _ bf nf _ rfl (hf1.alloc _) ?_; intro w0 hrg0 hg0 hs0)
    | fail)
  go_frame
  rw [e1] at hrg0 hs0 ⊢
  have hown0 : OwnMp w0 w.heap.size 0 (.map []) := (World.ownsMap_made _ _ _ _).kept hg0 (by simp)
  have hbel0 : Below w.heap.size w w0 := ((Below.refl _ _).alloc (Nat.le_refl _) _).grown hg0 (by simp) (fun j hj => by cases hj)
  rw [← hB] at hrg0 hs0 hown0 hbel0 hblf hblg ⊢
  have Hbel0 := Lib.hid hbel0
  clear hbel0 hg0 e1 hB
  go_loopg [6, 7, 8, 9, 10, 11] (Maps.size Df) (fun g s6 s7 s8 s9 s10 s11 wr => ∃ (left : Lit → Bool) (Dout : DU) (A : Pl), RanP wr bf (B + 1) nf Df left g ∧ g ≤ Maps.size Df ∧ B + 1 < wr.heap.size ∧ (∀ l, left l = true → has Df l = true) ∧
      OwnMp wr B ((Maps.size Df - g) * ng) Dout ∧ Hid (PolM (d + d) Dout A) ∧ Hid (Gath Df P (fun g a => Ev Q fun b => g (addE a b)) left A) ∧ Hid (Below B w wr))
  case atStart => exact ⟨_, .map [], [], hrg0, Nat.le_refl _, by omega, fun _ h => h, hown0.mono (Nat.zero_le _), Lib.hid (PolM.empty _), hG0, Hbel0⟩
  case round =>
    obtain ⟨left, Dout, A, hrg, hgs, hszr, hleft, hout, hpm, hga, hbel⟩ := hrel
    obtain ⟨wx, rfl⟩ : ∃ x : World, x = wr := ⟨_, rfl⟩
    go_wp2_with (first
      | (at_next; refine wpList_next_poly _ rfl _ rfl bf (B + 1) nf d Df P left gk rfl hrg HF2.out (by omega) hleft ?_ ?_)
      | fail)
    · intro hc0 hl0
      have hend := (hga.out.end hl0)
      have Hend := Lib.hid hend
      clear hend
      go_wp2_with fail
      go_ret
      refine ⟨_, rfl, ⟨B, Dout, rfl, hout.mono (Nat.mul_le_mul_right _ (by omega)), hpm.out.alt fun g => ?_⟩, HB.out ▸ hbel.out⟩
      rw [Ev_mulP]
      exact Hend.out g
    · intro a0 a1 a2 a3 a4 a5 a6 c w1 cnt1 hK hlx hwf hat hrg1 hlt hgr1 hs1 hen
      have Hat := Lib.hid hat
      have Hgr1 := Lib.hid hgr1
      have hout1 := hout.kept hgr1 (by intro h; injection h with h; omega)
      have hBx := hout.lt
      obtain ⟨av, hav⟩ : ∃ av : List Int, av = [a0, a1, a2, a3, a4, a5, a6] := ⟨_, rfl⟩
      have HK := Lib.hid (show K7 d av by rw [hav]; exact hK)
      have Hav := Lib.hid hav
      have Hwf := Lib.hid hwf
      clear hat hgr1 hav hK hwf
      have Hpm := Lib.hid hpm.out
      have hg1x : OwnMp wx bg ng Dg := by
        obtain ⟨es, clock, hb', F, hs, hD⟩ := Hg1.out
        exact ⟨es, clock, (hbel.out.block bg hblg).trans hb', F, hs, hD⟩
      have hg1w := hg1x.kept Hgr1.out (by intro h; injection h with h; omega)
      obtain ⟨oa, hoa⟩ : ∃ o : Obj, o = .cells #[.int .i64 a0, .int .i64 a1, .int .i64 a2, .int .i64 a3, .int .i64 a4, .int .i64 a5, .int .i64 a6] 75 := ⟨_, rfl⟩
      have Hoa := Lib.hid hoa
      have Hout1 := Lib.hid (hout1.alloc oa)
      have Hrg1 := Lib.hid (hrg1.alloc oa)
      have Hbel1 := Lib.hid ((hbel.out.grown Hgr1.out (by omega) (fun j hj => by cases hj; omega)).alloc (by omega) oa)
      have Hz6 := Lib.hid (show ArT 75 (w1.alloc oa) w1.heap.size av by rw [Hav.out]; unfold ArT; rw [hoa]; exact heap_alloc_top _ _)
      have hg1a := hg1w.alloc oa
      have hB1 : B < (w1.alloc oa).heap.size := by rw [size_alloc]; omega
      have hbg1 : bg < (w1.alloc oa).heap.size := by rw [size_alloc]; omega
      have hq6 : w1.heap.size < (w1.alloc oa).heap.size := by rw [size_alloc]; omega
      have hr1 : B + 1 < (w1.alloc oa).heap.size := by rw [size_alloc]; omega
      rw [hoa] at hg1a
      clear hout hout1 hrg hrg1 hg1x hg1w hbel hoa hpm
      go_wp2_with (first
        | (at_range; refine wpList_range_own _ rfl _ 61 rfl 75 3 klaw und41 _ bg ng _ rfl hg1a ?_; intro w2 hrg2 hg2 hs2)
        | fail)
      go_frame
      rw [← Hoa.out] at hrg2 hg2 hs2 ⊢
      have hs1a : (w1.alloc oa).heap.size = wx.heap.size + 1 := by rw [size_alloc, hs1]
      rw [hs1a] at hrg2 hs2 hB1 hbg1 hq6 hr1 ⊢
      have Hrg := Lib.hid (Hrg1.out.kept hg2 (by simp) (by simp))
      have Hout := Lib.hid (Hout1.out.kept hg2 (by simp))
      have Hbel := Lib.hid (Hbel1.out.grown hg2 (by omega) (fun j hj => by cases hj))
      have Hz := Lib.hid (show ArT 75 w2 wx.heap.size av from (hg2.block wx.heap.size (by rw [hs1a]; omega) (by simp)).trans (by rw [← hs1]; exact Hz6.out))
      have HG1 := Lib.hid (Gath.start (T := fun g b => c * g (addE av b)) hg1a HG2.out)
      obtain ⟨q6, hq6e⟩ : ∃ q, q = wx.heap.size := ⟨_, rfl⟩
      rw [← hq6e] at hrg2 hs2 hB1 hbg1 hq6 hr1 Hz ⊢
      have hB2 : B < q6 + 1 := by omega
      have hbg2 : bg < q6 + 1 := by omega
      have hr12 : B + 1 < q6 := by omega
      have hsz2 : q6 + 1 < w2.heap.size := by rw [hs2]; omega
      clear hg2 hg1a Hrg1 Hout1 Hbel1 Hz6 hB1 hbg1 hq6 hr1 hq6e hen hs1 Hgr1 hs1a
      obtain ⟨K0, hK0⟩ : ∃ K0, K0 = (Maps.size Df - gk) * ng := ⟨_, rfl⟩
      have HK0 := Lib.hid hK0
      rw [← hK0] at Hout
      have hKn : K0 + ng ≤ nf * ng := by
        rw [hK0, ← Nat.succ_mul]
        exact Nat.mul_le_mul_right _ (by omega)
      clear hK0
      go_loopg [8, 9, 10, 11] (Maps.size Dg) (fun g s8 s9 s10 s11 wr => ∃ (left2 : Lit → Bool) (Dout2 : DU) (A2 : Pl), RanP wr bg (q6 + 1) ng Dg left2 g ∧ RanP wr bf (B + 1) nf Df (fun z => left z && !z.sameKey (kl [a0, a1, a2, a3, a4, a5, a6])) cnt1 ∧ g ≤ Maps.size Dg ∧ (q6 + 1) < wr.heap.size ∧ (∀ l, left2 l = true → has Dg l = true) ∧
          OwnMp wr B (K0 + (Maps.size Dg - g)) Dout2 ∧ Hid (PolM (d + d) Dout2 (A ++ A2)) ∧ Hid (Gath Dg Q (fun g b => c * g (addE av b)) left2 A2) ∧ Hid (Below B w wr) ∧ Hid (ArT 75 wr q6 av))
      case atStart => exact ⟨_, _, [], hrg2, Hrg.out, Nat.le_refl _, hsz2, fun _ h => h, Hout.out.mono (by omega), by rw [List.append_nil]; exact Hpm.out, HG1.out, Hbel.out, Hz.out⟩
      case round =>
        obtain ⟨left2, Dout2, A2, hrg, hrgo, hgs2, hszr2, hleft2, hout, hpm, hga2, hbel, hz⟩ := hrel
        obtain ⟨wy, rfl⟩ : ∃ x : World, x = wr := ⟨_, rfl⟩
        go_wp2_with (first
          | (at_next; refine wpList_next_poly _ rfl _ rfl bg (q6 + 1) ng d Dg Q left2 gk rfl hrg HG2.out (by omega) hleft2 ?_ ?_)
          | fail)
        · intro hc0 hl0
          have hend := (hga2.out.end hl0)
          have Hend := Lib.hid hend
          have Hpm2 := Lib.hid hpm.out
          have Hbel2 := Lib.hid hbel.out
          clear hend hpm hbel hga2 hz
          go_wp2_with fail
          go_roundg cnt1
          case measure => exact hlt
          case rel =>
            have hle : K0 + (size Dg - gk) ≤ (size Df - cnt1) * ng := by
              refine Nat.le_trans (m := K0 + ng) (by omega) ?_
              rw [HK0.out, ← Nat.succ_mul]
              exact Nat.mul_le_mul_right _ (by omega)
            refine ⟨_, Dout2, A ++ A2, hrgo, by omega, by omega, has_sub hleft, hout.mono hle, Hpm2.out, Lib.hid (hga.out.step HF2.out.tidy (d := d) (by rw [← Hav.out]; exact HK.out) (by omega) hlx Hat.out fun g => ?_), Hbel2.out⟩
            rw [Ev_append, ← Ev_mul, ← Hav.out]
            exact (Cg.refl _).add (Hend.out g)
        · intro b0 b1 b2 b3 b4 b5 b6 c2 w3 cnt2 hK2 hlx2 hwf2 hat2 hrg3 hlt2 hgr3 hs3 hen3
          obtain ⟨g2, rfl⟩ : ∃ x : Nat, x = gk := ⟨_, rfl⟩
          have Hat2 := Lib.hid hat2
          have Hgr3 := Lib.hid hgr3
          have Hlx2 := Lib.hid hlx2
          obtain ⟨bv, hbv⟩ : ∃ bv : List Int, bv = [b0, b1, b2, b3, b4, b5, b6] := ⟨_, rfl⟩
          have HK2 := Lib.hid (show K7 d bv by rw [hbv]; exact hK2)
          have Hbv := Lib.hid hbv
          have Hpm2 := Lib.hid hpm.out
          have Hga2 := Lib.hid hga2.out
          have hBy := hout.lt
          have hzz := hz.out
          rw [Hav.out] at hzz
          obtain ⟨x0, x1, x2, x3, x4, x5, x6, _, _⟩ := blk7 (show (w3.alloc (.cells #[.int .i64 b0, .int .i64 b1, .int .i64 b2, .int .i64 b3, .int .i64 b4, .int .i64 b5, .int .i64 b6] 75)).heap[q6]? = some (.cells #[.int .i64 a0, .int .i64 a1, .int .i64 a2, .int .i64 a3, .int .i64 a4, .int .i64 a5, .int .i64 a6] 75 (0, 0)) from
            (heap_alloc_low _ _ (by rw [hs3]; omega)).trans ((hgr3.block q6 (by omega) (by simp)).trans hzz))
          have Hout3 := Lib.hid ((hout.kept hgr3 (by intro h; injection h with h; omega)))
          have Hrgo3 := Lib.hid (hrgo.kept hgr3 (by intro h; injection h with h; omega) (by intro h; injection h with h; omega))
          have Hrg3 := Lib.hid hrg3
          have Hbel3 := Lib.hid (hbel.out.grown hgr3 (by omega) (fun j hj => by cases hj; omega))
          have Hz3 := Lib.hid (show ArT 75 w3 q6 av from (hgr3.block q6 (by omega) (by simp)).trans hz.out)
          clear hat2 hgr3 hlx2 hbv hK2 hwf2 hpm hga2 hzz hz hout hrgo hrg hrg3 hbel
          obtain ⟨W, hW⟩ : ∃ W, W = (w3.alloc (.cells #[.int .i64 b0, .int .i64 b1, .int .i64 b2, .int .i64 b3, .int .i64 b4, .int .i64 b5, .int .i64 b6] 75)).alloc (.cells #[.int .i64 a0, .int .i64 a1, .int .i64 a2, .int .i64 a3, .int .i64 a4, .int .i64 a5, .int .i64 a6] 75) := ⟨_, rfl⟩
          have HzB := Lib.hid (show ArT 75 W wy.heap.size bv by
            rw [hW, Hbv.out]
            exact (heap_alloc_low _ _ (by rw [size_alloc]; omega)).trans (heap_alloc_at _ _ hs3.symm))
          have HzA := Lib.hid (show ArT 75 W (wy.heap.size + 1) (mixL av bv 0) by
            rw [hW, show mixL av bv 0 = av by rw [Hav.out]; rfl, Hav.out]
            exact heap_alloc_at _ _ (by rw [size_alloc, hs3]))
          have HoutW := Lib.hid (show OwnMp W B (K0 + (size Dg - g2)) Dout2 by rw [hW]; exact (Hout3.out.alloc _).alloc _)
          have HrgoW := Lib.hid (show RanP W bf (B + 1) nf Df (fun z => left z && !z.sameKey (kl [a0, a1, a2, a3, a4, a5, a6])) cnt1 by rw [hW]; exact (Hrgo3.out.alloc _).alloc _)
          have HrgW := Lib.hid (show RanP W bg (q6 + 1) ng Dg (fun z => left2 z && !z.sameKey (kl [b0, b1, b2, b3, b4, b5, b6])) cnt2 by rw [hW]; exact (Hrg3.out.alloc _).alloc _)
          have HbelW := Lib.hid (show Below B w W by rw [hW]; exact (Hbel3.out.alloc (by omega) _).alloc (by rw [size_alloc]; omega) _)
          have HzW := Lib.hid (show ArT 75 W q6 av by rw [hW]; exact (heap_alloc_low _ _ (by rw [size_alloc]; omega)).trans ((heap_alloc_low _ _ (by omega)).trans Hz3.out))
          have hszW : W.heap.size = wy.heap.size + 1 + 1 := by rw [hW, size_alloc, size_alloc, hs3]
          have HW := Lib.hid hW
          clear hW Hout3 Hrgo3 Hrg3 Hbel3 Hz3
          go_wp2_with fail
          rw [← HW.out]
          try rw [hs3]
          obtain ⟨q8, hq8⟩ : ∃ q8, q8 = wy.heap.size := ⟨_, rfl⟩
          rw [← hq8] at HzB HzA hszW ⊢
          have hq8' : q6 + 1 < q8 := by omega
          clear x0 x1 x2 x3 x4 x5 x6 hs3 hq8 hen3
          go_loopg [11, 28] 7 (fun g s11 s28 wr => ∃ i : Nat, i ≤ 7 ∧ g = 7 - i ∧ s28 = .int .i64 i ∧ Hid (ArT 75 wr (q8 + 1) (mixL av bv i)) ∧ Hid (Frm (q8 + 1) (q8 + 1 + 1) W wr))
          case atStart => exact ⟨0, Nat.zero_le _, rfl, rfl, HzA.out, Frm.refl _ _ _⟩
          case round =>
            obtain ⟨i, hi, rfl, rfl, hm, hfm⟩ := hrel
            obtain ⟨wz, rfl⟩ : ∃ x : World, x = wr := ⟨_, rfl⟩
            have Hm := Lib.hid hm.out
            have Hfm := Lib.hid hfm.out
            clear hm hfm
            by_cases hi7 : i < 7
            · have hi7z : (i : Int) < 7 := by omega
              have c1 := Hm.out.cell (j := i) (by rw [mixL_length]; exact hi7)
              rw [mixL_getD hi7, if_neg (Nat.lt_irrefl i)] at c1
              have c2' : wz.cell? ⟨q8, i, none⟩ = some (.int .i64 (bv.getD i 0)) := (show ArT 75 wz q8 bv from (Hfm.out.block q8 (by omega) (Or.inl (by omega))).trans HzB.out).cell (by rw [HK2.out.1]; exact hi7)
              have f1 : wz.frozen? ⟨q8 + 1, i, none⟩ = false := free_of_blk Hm.out i
              have r1 := HK.out.rng i
              have r2 := HK2.out.rng i
              have Hs := Lib.hid (mixL_succ (x := av) (y := bv) hi7)
              obtain ⟨xa, hxa⟩ : ∃ x, x = av.getD i 0 := ⟨_, rfl⟩
              obtain ⟨xb, hxb⟩ : ∃ x, x = bv.getD i 0 := ⟨_, rfl⟩
              rw [← hxa] at c1 r1 Hs
              rw [← hxb] at c2' r2 Hs
              have hwr : IntKind.i64.wrap (xa + xb) = xa + xb := k64 (by omega) (by omega)
              have hwr2 : wrap64 (xa + xb) = xa + xb := w64 (by omega) (by omega)
              clear hxa hxb
              go_wp2_with fail
              go_region
              go_wp2_with fail
              go_roundg (7 - (i + 1))
              case measure => omega
              case rel =>
                refine ⟨i + 1, by omega, rfl, by go_num, ?_, ?_⟩
                · show ArT _ _ _ (mixL av bv (i + 1))
                  rw [← Hs.out]
                  exact Hm.out.set i _
                · exact (Hfm.out.setCell (p := ⟨q8 + 1, i, none⟩) (Nat.le_refl _) (by show q8 + 1 < q8 + 1 + 1; omega) _).drewN 1
            · obtain rfl : i = 7 := by omega
              have hmm7 := Hm.out
              rw [mixL_seven] at hmm7
              obtain ⟨t0, t1, t2, t3, t4, t5, t6, hts⟩ := addE_lit av bv
              rw [hts] at hmm7
              have Hts := Lib.hid hts
              obtain ⟨x0, x1, x2, x3, x4, x5, x6, _, _⟩ := blk7 hmm7
              have hgW := frm_gb Hfm.out
              have hKe := HK.out.addE HK2.out
              rw [hts] at hKe
              have HoutZ := HoutW.out.kept hgW (by intro h; injection h with h; omega)
              have HA := Lib.hid (add_any B (K0 + (size Dg - g2)) (d + d) Dout2 (A ++ A2) [t0, t1, t2, t3, t4, t5, t6] (wrap64 (c * c2)) wz HoutZ Hpm2.out hKe (by omega) (by omega))
              have HrgZ := Lib.hid (HrgW.out.kept hgW (by intro h; injection h with h; omega) (by intro h; injection h with h; omega))
              have HrgoZ := Lib.hid (HrgoW.out.kept hgW (by intro h; injection h with h; omega) (by intro h; injection h with h; omega))
              have HbelZ := Lib.hid (HbelW.out.grown hgW (by omega) (fun j hj => by cases hj; omega))
              have HzZ := Lib.hid (show ArT 75 wz q6 av from (Hfm.out.block q6 (by omega) (Or.inl (by omega))).trans HzW.out)
              have hszZ := Hfm.out.size
              clear hmm7 hts hgW hKe HoutZ
              go_wp2_with fail
              refine HA.out.mono ?_
              rintro e w9 ⟨rfl, D9, ho9, hp9, hg9⟩
              have Hrg9 := Lib.hid (HrgZ.out.kept hg9 (by intro h; injection h with h; omega) (by intro h; injection h with h; omega))
              have Hrgo9 := Lib.hid (HrgoZ.out.kept hg9 (by intro h; injection h with h; omega) (by intro h; injection h with h; omega))
              have Hbel9 := Lib.hid (HbelZ.out.grown hg9 (by omega) (fun j hj => by cases hj; omega))
              have Hz9 := Lib.hid (show ArT 75 w9 q6 av from (hg9.block q6 (by omega) (by intro h; injection h with h; omega)).trans HzZ.out)
              have Hp9 := Lib.hid hp9
              have hsz9 := hg9.size
              clear hp9 hg9 x0 x1 x2 x3 x4 x5 x6
              go_wp2_with fail
              go_roundg cnt2
              case measure => exact hlt2
              case rel =>
                refine ⟨_, D9, A2 ++ [([t0, t1, t2, t3, t4, t5, t6], wrap64 (c * c2))], Hrg9.out, Hrgo9.out, by omega, by omega, has_sub hleft2, ho9.mono (by omega), by rw [← List.append_assoc]; exact Hp9.out, Lib.hid (Hga2.out.step (d := d) HG2.out.tidy (by rw [← Hbv.out]; exact HK2.out) (by omega) Hlx2.out Hat2.out fun g => ?_), Hbel9.out, Hz9.out⟩
                rw [Ev_append]
                refine (Cg.refl _).add ?_
                rw [← Hbv.out, Hts.out]
                simp only [Ev, Int.add_zero]
                rw [show c2 * (c * g [t0, t1, t2, t3, t4, t5, t6]) = c * c2 * g [t0, t1, t2, t3, t4, t5, t6] by rw [Int.mul_left_comm, Int.mul_assoc]]
                exact (cg_wrap _).mul (Cg.refl _)

end Go.Proofs.YtgebjjpcgakjgaaGreat

namespace Go.Proofs.YtgebjjpcgakjgaaGreat
set_option linter.all false
set_option maxRecDepth 100000
open Go.RowKit

def subN (P : Pl) (c : Int) (S : Pl) : Pl := srtT (nrm (P ++ sclP (-c) S))
def mulN (P Q : Pl) : Pl := srtT (nrm (mulP P Q))
theorem Ev_subN (P : Pl) (c : Int) (S : Pl) (g : List Int → Int) : Ev (subN P c S) g = Ev (P ++ sclP (-c) S) g := by
  unfold subN
  rw [Ev_perm (srtT_perm _), Ev_nrm]
theorem Ev_mulN (P Q : Pl) (g : List Int → Int) : Ev (mulN P Q) g = Ev (mulP P Q) g := by
  unfold mulN
  rw [Ev_perm (srtT_perm _), Ev_nrm]
def l1S (P : Pl) : Int := (P.map fun t => if t.2 < 0 then -t.2 else t.2).sum
theorem cf_l1 (e : List Int) : ∀ P : Pl, -(l1S P) ≤ cfP P e ∧ cfP P e ≤ l1S P
  | [] => by
    show -(0 : Int) ≤ 0 ∧ (0 : Int) ≤ 0
    omega
  | t :: P => by
    have ih := cf_l1 e P
    have h1 : cfP (t :: P) e = t.2 * ind e t.1 + cfP P e := Ev_cons t P _
    have h2 : l1S (t :: P) = (if t.2 < 0 then -t.2 else t.2) + l1S P := by simp [l1S]
    rw [h1, h2]
    unfold ind
    split <;> split <;> omega
/-- one step: the first term, its permutation -/
def stpB (P : Pl) (w : List Int) (c : Int) : Bool := match P with
  | [] => false
  | t :: P' => decide (t.1.length = 7) && t.1.all (fun x => decide (0 ≤ x) && decide (x ≤ 24)) && P'.all (fun s => ltT t.1 s.1) && decide (t.2 = c) && decide (c ≠ 0) && decide (l1S P ≤ 1000000) &&
    poB t.1 && permOk (poO t.1 7) && decide (trimL (poO t.1 7) = w) && permOk w && decide (trimL w = w) && decide (1 ≤ w.length) && decide (w.length ≤ 7) && lowOk 15 w
def exdOk : Pl → List Cls → Bool
  | P, [] => P.isEmpty
  | P, x :: L => stpB P x.1 x.2 && exdOk (subN P x.2 (symS7 x.1)) L

end Go.Proofs.YtgebjjpcgakjgaaGreat

namespace Go.Proofs.YtgebjjpcgakjgaaGreat
set_option linter.all false
set_option maxRecDepth 100000
open Go.RowKit Go.Maps Go.WideMaps Go.WideElems Go.MapKept Go.ChangeMaps Go.ChangeShapes

theorem TmOk.k7 {t : Cls} (h : TmOk t) : K7 24 t.1 := by
  refine ⟨h.1, fun x hx => ?_⟩
  obtain ⟨j, hj, rfl⟩ := List.mem_iff_getElem.1 hx
  have := h.2.1 j
  rw [getD_lt hj] at this
  exact this
theorem run_arrayAt7 (b o k : Nat) (w : World) : (Instr.arrayAt 75 (.slice (some ⟨b, o, none⟩) 7 k)).run Tryz.prog w = .ok (.pointer (some ⟨b, o, none⟩)) w := by
  unfold Instr.arrayAt
  simp [run_underlying und56]
theorem take_snocT {l : List Cls} {k : Nat} (h : k < l.length) : l.take (k + 1) = l.take k ++ [((l.getD k clD).1, (l.getD k clD).2)] := by
  rw [List.take_succ, List.getElem?_eq_getElem h]
  have e : l.getD k clD = l[k] := by simp [List.getD_eq_getElem?_getD, h]
  rw [e]
  rfl

set_option maxHeartbeats 4000000 in
theorem openD_any (d : Nat) (v : Value) (ts : List Cls) (w : World) (h : RdCl w v ts) (hok : TsOk ts) (hd : d ≤ 24) (hkd : ∀ t ∈ ts, K7 d t.1) :
    Calls Tryz.prog 49 #[v] w fun e w' => ∃ u, e = .returned u ∧ PolV w' u d ts.length ts ∧ Below w.heap.size w w' := by
  obtain ⟨f, hs, hf⟩ := h
  obtain ⟨p, cap, rfl, ⟨hx1, hx⟩, hxc⟩ := hs.two
  unfold maxLen at hx
  have hmm := @run_makeMap Tryz.prog
  obtain ⟨N, hN⟩ : ∃ N, N = ts.length := ⟨_, rfl⟩
  have HN := Lib.hid hN
  have hN6 : N ≤ 600 := by rw [hN]; exact hok.1
  rw [← hN] at hx1 hxc hf ⊢
  have Hf := Lib.hid hf
  have Hxc := Lib.hid hxc
  have Hok := Lib.hid hok
  have Hkd := Lib.hid hkd
  obtain ⟨B, hB⟩ : ∃ B, B = w.heap.size := ⟨_, rfl⟩
  have HB := Lib.hid hB
  have hown0 : OwnMp (w.alloc (.map #[] 0)) w.heap.size 0 (.map []) := World.ownsMap_made _ _ _ _
  have hbel0 : Below w.heap.size w (w.alloc (.map #[] 0)) := below_alloc w _
  rw [← hB] at hown0 hbel0
  have Hown0 := Lib.hid hown0
  have Hbel0 := Lib.hid hbel0
  clear hf hxc hs hok hN hown0 hbel0 hkd
  go_enter Tryz.func49, Tryz.ntmps49
  go_wp2_with fail
  rw [← HB.out]
  clear hB
  go_loopg [5, 9] N (fun g s5 s9 wr => ∃ (k : Nat) (Dout : DU), k ≤ N ∧ g = N - k ∧ s9 = .int .i64 k ∧ Hid (OwnMp wr B k Dout) ∧ Hid (PolM d Dout (ts.take k)) ∧ Hid (Below B w wr))
  case atStart => exact ⟨0, .map [], Nat.zero_le _, rfl, rfl, Hown0.out, PolM.empty _, Hbel0.out⟩
  case round =>
    obtain ⟨k, Dout, hk, rfl, rfl, ho, hp, hb⟩ := hrel
    obtain ⟨wo, rfl⟩ : ∃ x : World, x = wr := ⟨_, rfl⟩
    have Ho := Lib.hid ho.out
    have Hp := Lib.hid hp.out
    have Hb := Lib.hid hb.out
    clear ho hp hb
    by_cases hlt : k < N
    · have hkz : (k : Int) < (N : Int) := by omega
      obtain ⟨b, rfl, hc⟩ := Hxc.out (by omega)
      obtain ⟨a0, a1⟩ := hc k hlt
      have hbw : Below w.heap.size w wo := by rw [← HB.out]; exact Hb.out
      have c0 := cell_below hbw a0
      have c1 := cell_below hbw a1
      have hT := Hok.out.at (k := k) (by rw [← HN.out]; exact hlt)
      have hK := Hkd.out _ (show ts.getD k clD ∈ ts by
        have e : ts.getD k clD = ts[k]'(by rw [← HN.out]; exact hlt) := by simp [List.getD_eq_getElem?_getD, show k < ts.length by rw [← HN.out]; exact hlt]
        rw [e]; exact List.getElem_mem _)
      obtain ⟨e, he⟩ : ∃ e, e = (ts.getD k clD).1 := ⟨_, rfl⟩
      obtain ⟨c, hcc⟩ : ∃ c, c = (ts.getD k clD).2 := ⟨_, rfl⟩
      have hi := (Hf.out k hlt).below hbw
      rw [← he] at hK hi
      rw [← hcc] at c1
      obtain ⟨q, kq, eq, ⟨m1, m2⟩, hq⟩ := hi
      rw [eq, hK.1] at c0
      rw [hK.1] at hq m1
      obtain ⟨g, og, rfl, hg⟩ := hq (by omega)
      have T1 := Lib.hid (take_snocT (l := ts) (k := k) (by rw [← HN.out]; exact hlt))
      rw [← he, ← hcc] at T1
      obtain ⟨t0, t1, t2, t3, t4, t5, t6, hts⟩ : ∃ t0 t1 t2 t3 t4 t5 t6 : Int, e = [t0, t1, t2, t3, t4, t5, t6] := by
        have := hK.1
        match e, this with
        | [t0, t1, t2, t3, t4, t5, t6], _ => exact ⟨_, _, _, _, _, _, _, rfl⟩
      subst hts
      have hlg := World.block_lt_of_cell? _ _ (hg 0 (by omega))
      obtain ⟨W, hW⟩ : ∃ W, W = wo.alloc (.cells #[.slice (some ⟨g, og, none⟩) 7 kq, .int .i64 c] 93) := ⟨_, rfl⟩
      have hbW : Below wo.heap.size wo W := by rw [hW]; exact below_alloc wo _
      have zW : W.heap[wo.heap.size]? = some (.cells #[.slice (some ⟨g, og, none⟩) 7 kq, .int .i64 c] 93 (0, 0)) := by rw [hW]; exact heap_alloc_top _ _
      have x0 := cell_of_blk zW (j := 0) rfl
      have x1 := cell_of_blk zW (j := 1) rfl
      have y0 : W.cell? ⟨g, og, none⟩ = some (.int .i64 t0) := cell_below hbW (hg 0 (by omega))
      have y1 := cell_below hbW (hg 1 (by omega))
      have y2 := cell_below hbW (hg 2 (by omega))
      have y3 := cell_below hbW (hg 3 (by omega))
      have y4 := cell_below hbW (hg 4 (by omega))
      have y5 := cell_below hbW (hg 5 (by omega))
      have y6 := cell_below hbW (hg 6 (by omega))
      have HoW := Lib.hid (show OwnMp W B k Dout by rw [hW]; exact Ho.out.alloc _)
      have HA := Lib.hid (add_any B k d Dout (ts.take k) [t0, t1, t2, t3, t4, t5, t6] c W.drew (HoW.out.kept (row := none) ⟨rfl, rfl, rfl, Nat.le_refl _, fun _ _ _ => rfl⟩ (by simp)) Hp.out hK (by omega) (by omega))
      have HbW := Lib.hid (Hb.out.alloc (o := (.cells #[.slice (some ⟨g, og, none⟩) 7 kq, .int .i64 c] 93)) (by have := Ho.out.lt; omega))
      have HW := Lib.hid hW
      have har := run_arrayAt7 g og kq
      clear hW hbW zW hg hq hT hc a0 a1 he hcc eq
      go_wp2_with fail
      rw [← HW.out]
      go_still_tail 7, (by kernel_rfl)
      change wpList _ _ _ _ _ W.drew
      go_wp2_with fail
      refine HA.out.mono ?_
      rintro e w9 ⟨rfl, D9, ho9, hp9, hg9⟩
      have Ho9 := Lib.hid ho9
      have Hp9 := Lib.hid hp9
      have Hb9 := Lib.hid ((show Below B w W by rw [HW.out]; exact HbW.out).grown (gb_undrew hg9) (by rw [HB.out]; exact (show Below w.heap.size w W by rw [← HB.out, HW.out]; exact HbW.out).size) (fun j hj => by injection hj with hj; omega))
      clear x0 x1 y0 y1 y2 y3 y4 y5 y6 ho9 hp9 hg9
      go_wp2_with fail
      go_roundg (N - (k + 1))
      case measure => omega
      case rel => exact ⟨k + 1, D9, by omega, rfl, by go_num, Ho9.out, by rw [T1.out]; exact Hp9.out, Hb9.out⟩
    · obtain rfl : k = N := by omega
      have hp' := Hp.out
      rw [HN.out, List.take_of_length_le (Nat.le_refl _)] at hp'
      have Hp' := Lib.hid hp'
      clear hp'
      go_wp2_with fail
      go_ret
      exact ⟨_, rfl, ⟨B, Dout, rfl, Ho.out, Hp'.out⟩, by rw [← HB.out]; exact Hb.out⟩

theorem open_any (v : Value) (ts : List Cls) (w : World) (h : RdCl w v ts) (hok : TsOk ts) :
    Calls Tryz.prog 49 #[v] w fun e w' => ∃ u, e = .returned u ∧ PolV w' u 24 ts.length ts ∧ Below w.heap.size w w' :=
  openD_any 24 v ts w h hok (Nat.le_refl _) fun t ht => (hok.2.1 t ht).k7

end Go.Proofs.YtgebjjpcgakjgaaGreat

namespace Go.Proofs.YtgebjjpcgakjgaaGreat
set_option linter.all false
set_option maxRecDepth 100000
open Go.RowKit Go.Maps Go.WideMaps Go.WideElems Go.MapKept Go.ChangeMaps Go.ChangeShapes

theorem has_of_cf {w : World} {b n d : Nat} {D : DU} {P : Pl} (ho : OwnMp w b n D) (h : PolM d D P) (hd : d ≤ 1000000) (hco : ∀ e, -1000000 ≤ cfP P e ∧ cfP P e ≤ 1000000) {e : List Int} (he : K7 d e) (hc : cfP P e ≠ 0) : has D (kl e) = true := by
  cases hh : has D (kl e) with
  | true => rfl
  | false =>
    have hs := h.sum (ind e)
    have h2 : SmD D (fun l => ind e (unkl l)) = 0 := by
      obtain ⟨es, rfl, hpw⟩ := h.tidy
      refine SmL_zero _ fun p hp => ?_
      have hm := hm_of ho es rfl p hp
      have hp1 : has (.map es) p.1 = true := List.any_eq_true.2 ⟨p, hp, WideAt.sameKey_self hm⟩
      obtain ⟨e', h1, h2⟩ := h.keys _ hp1
      rw [h1, unkl_kl h2 hd]
      unfold ind
      rw [if_neg fun e3 => ?_]
      rw [h1, e3, hh] at hp1
      cases hp1
    rw [h2] at hs
    exact absurd (cg_eq hs rfl (hco e)).symm hc
/-- the first of the keys that were seen -/
def Best (d : Nat) (D : DU) (left : Lit → Bool) (fl : Bool) (best : List Int) : Prop :=
  (fl = false ∧ ∀ l, has D l = true → left l = true) ∨ (fl = true ∧ K7 d best ∧ has D (kl best) = true ∧ left (kl best) = false ∧ ∀ e, K7 d e → has D (kl e) = true → left (kl e) = false → e = best ∨ ltT best e = true)
theorem Best.start (d : Nat) (D : DU) : Best d D (has D) false [0, 0, 0, 0, 0, 0, 0] := .inl ⟨rfl, fun _ h => h⟩
theorem left_split {d : Nat} (hd : d ≤ 1000000) {left : Lit → Bool} {e a : List Int} (he : K7 d e) (ha : K7 d a) (h : (left (kl e) && !(kl e).sameKey (kl a)) = false) : left (kl e) = false ∨ e = a := by
  rw [Bool.and_eq_false_iff] at h
  rcases h with h | h
  · exact .inl h
  · right
    have h2 : (kl e).sameKey (kl a) = true := by simpa using h
    exact kl_inj he hd ha hd (WideAt.sameKey_eq h2)
theorem Best.same {d : Nat} {D : DU} {left : Lit → Bool} {best a : List Int} (hd : d ≤ 1000000) (h : Best d D left true best) (ha : K7 d a) (hla : left (kl a) = true) (hn : ltT a best = false) : Best d D (fun z => left z && !z.sameKey (kl a)) true best := by
  rcases h with ⟨h, _⟩ | ⟨_, h1, h2, h3, h4⟩
  · cases h
  · refine .inr ⟨rfl, h1, h2, by simp [h3], fun e he hh hl => ?_⟩
    rcases left_split hd he ha hl with h5 | h5
    · exact h4 e he hh h5
    · subst h5
      cases h6 : ltT best e with
      | true => exact .inr rfl
      | false => exact .inl (ltT_total _ _ hn h6)
theorem Best.new {d : Nat} {D : DU} {left : Lit → Bool} {fl : Bool} {best a : List Int} (hd : d ≤ 1000000) (h : Best d D left fl best) (ha : K7 d a) (hla : left (kl a) = true) (hh : has D (kl a) = true) (hn : fl = true → ltT a best = true) : Best d D (fun z => left z && !z.sameKey (kl a)) true a := by
  refine .inr ⟨rfl, ha, hh, by simp [WideAt.sameKey_self (kl_lit a)], fun e he hhe hl => ?_⟩
  rcases left_split hd he ha hl with h5 | h5
  · right
    rcases h with ⟨h, h1⟩ | ⟨h, h1, h2, h3, h4⟩
    · rw [h1 _ hhe] at h5; cases h5
    · have hab := hn h
      rcases h4 e he hhe h5 with h6 | h6
      · rw [h6]; exact hab
      · exact ltT_trans _ _ _ hab h6
  · exact .inl h5
theorem Best.end {d : Nat} {D : DU} {left : Lit → Bool} {fl : Bool} {best e0 : List Int} (h : Best d D left fl best) (hl : ∀ l, left l = false) (h0 : K7 d e0) (hh : has D (kl e0) = true) (hm : ∀ e, K7 d e → has D (kl e) = true → e = e0 ∨ ltT e0 e = true) : best = e0 := by
  rcases h with ⟨_, h1⟩ | ⟨_, h1, h2, _, h4⟩
  · have := h1 _ hh
    rw [hl] at this; cases this
  · rcases hm best h1 h2 with h5 | h5
    · exact h5
    · rcases h4 e0 h0 hh (hl _) with h6 | h6
      · exact h6.symm
      · have := ltT_asym h5
        rw [h6] at this; cases this

theorem ArT.ints {T : TypeId} {w : World} {g : Nat} {a : List Int} (h : ArT T w g a) (h7 : a.length = 7) : Ints w (.slice (some ⟨g, 0, none⟩) 7 7) a :=
  ⟨_, _, by rw [h7], ⟨by rw [h7]; exact Nat.le_refl _, by unfold maxLen; omega⟩, fun _ => ⟨g, 0, rfl, fun j hj => by
    rw [Nat.zero_add]
    exact h.cell hj⟩⟩
theorem ArT.below {T : TypeId} {w w' : World} {g : Nat} {a : List Int} (h : ArT T w g a) (hb : Below w.heap.size w w') : ArT T w' g a := blk_later h hb
theorem set7 {w : World} {b : Nat} {x0 x1 x2 x3 x4 x5 x6 : Value} {T : TypeId} (h : w.heap[b]? = some (.cells #[x0, x1, x2, x3, x4, x5, x6] T (0, 0))) (y0 y1 y2 y3 y4 y5 y6 : Value) :
    (((((((w.setCell ⟨b, 0, none⟩ y0).setCell ⟨b, 1, none⟩ y1).setCell ⟨b, 2, none⟩ y2).setCell ⟨b, 3, none⟩ y3).setCell ⟨b, 4, none⟩ y4).setCell ⟨b, 5, none⟩ y5).setCell ⟨b, 6, none⟩ y6).heap[b]? = some (.cells #[y0, y1, y2, y3, y4, y5, y6] T (0, 0)) ∧
      Frm b (b + 1) w (((((((w.setCell ⟨b, 0, none⟩ y0).setCell ⟨b, 1, none⟩ y1).setCell ⟨b, 2, none⟩ y2).setCell ⟨b, 3, none⟩ y3).setCell ⟨b, 4, none⟩ y4).setCell ⟨b, 5, none⟩ y5).setCell ⟨b, 6, none⟩ y6) := by
  constructor
  · have h0 := heap_setCell_at h 0 y0
    have h1 := heap_setCell_at h0 1 y1
    have h2 := heap_setCell_at h1 2 y2
    have h3 := heap_setCell_at h2 3 y3
    have h4 := heap_setCell_at h3 4 y4
    have h5 := heap_setCell_at h4 5 y5
    have h6 := heap_setCell_at h5 6 y6
    rw [h6]
    rfl
  · exact ((((((((Frm.refl b (b + 1) w).setCell (p := ⟨b, 0, none⟩) (Nat.le_refl _) (Nat.lt_succ_self _) _).setCell (p := ⟨b, 1, none⟩) (Nat.le_refl _) (Nat.lt_succ_self _) _).setCell (p := ⟨b, 2, none⟩) (Nat.le_refl _) (Nat.lt_succ_self _) _).setCell (p := ⟨b, 3, none⟩) (Nat.le_refl _) (Nat.lt_succ_self _) _).setCell (p := ⟨b, 4, none⟩) (Nat.le_refl _) (Nat.lt_succ_self _) _).setCell (p := ⟨b, 5, none⟩) (Nat.le_refl _) (Nat.lt_succ_self _) _).setCell (p := ⟨b, 6, none⟩) (Nat.le_refl _) (Nat.lt_succ_self _) _)
theorem lit7 {a : List Int} (h : a.length = 7) : ∃ s0 s1 s2 s3 s4 s5 s6 : Int, a = [s0, s1, s2, s3, s4, s5, s6] := by
  match a, h with
  | [s0, s1, s2, s3, s4, s5, s6], _ => exact ⟨_, _, _, _, _, _, _, rfl⟩

theorem kv7 (a0 a1 a2 a3 a4 a5 a6 : Int) : kv [a0, a1, a2, a3, a4, a5, a6] = .agg #[.int .i64 a0, .int .i64 a1, .int .i64 a2, .int .i64 a3, .int .i64 a4, .int .i64 a5, .int .i64 a6] := by simp [kv]
theorem info7 : (Tryz.prog.info? 75).map (·.size) = some 7 := by kernel_rfl
theorem results_first (tmps : Array Value) (w : World) (g : Nat) (y0 y1 y2 y3 y4 y5 y6 : Value) (fr : Nat × Nat) (hp : tmps.getD 2 undef = .pointer (some ⟨g, 0, none⟩)) (hg : w.heap[g]? = some (.cells #[y0, y1, y2, y3, y4, y5, y6] 75 fr)) :
    (results Tryz.f50 tmps).run Tryz.prog w = .ok (.agg #[y0, y1, y2, y3, y4, y5, y6]) w :=
  results_cell_row (ty := 75) (p := 2) (by kernel_rfl) tmps w g _ _ fr (.array 7 3) hp hg und56 rfl info7

set_option maxHeartbeats 8000000 in
theorem first_any (u : Value) (d n : Nat) (P : Pl) (e0 : List Int) (w : World) (hf : PolV w u d n P) (hd : d ≤ 1000) (hco : ∀ e, -1000000 ≤ cfP P e ∧ cfP P e ≤ 1000000) (h0 : K7 d e0) (hc0 : cfP P e0 ≠ 0) (hmin : ∀ e, K7 d e → cfP P e ≠ 0 → e = e0 ∨ ltT e0 e = true) :
    Calls Tryz.prog 50 #[u] w fun e w' => e = .returned (kv e0) ∧ Below w.heap.size w w' := by
  obtain ⟨bf, D, rfl, hf1, hf2⟩ := hf
  have hhas := has_of_cf hf1 hf2 (by omega) hco h0 hc0
  have hm : ∀ e, K7 d e → has D (kl e) = true → e = e0 ∨ ltT e0 e = true := fun e he hh => by
    obtain ⟨c, _, hc, _⟩ := hf1.lookup_int klaw und41 undI (zeroI _) (keyOf_kv he (by omega))
    obtain ⟨e1, e2⟩ := at_cf hf1 hf2 (by omega) hco he hh hc
    exact hmin e he (by rw [← e1]; exact e2)
  have hbl := hf1.lt
  have HF2 := Lib.hid hf2
  have Hhas := Lib.hid hhas
  have Hm := Lib.hid hm
  have H0 := Lib.hid h0
  obtain ⟨B, hB⟩ : ∃ B, B = w.heap.size := ⟨_, rfl⟩
  have HB := Lib.hid hB
  obtain ⟨o1, ho1⟩ : ∃ o : Obj, o = .cells #[.int .i64 0, .int .i64 0, .int .i64 0, .int .i64 0, .int .i64 0, .int .i64 0, .int .i64 0] 75 := ⟨_, rfl⟩
  have Ho1 := Lib.hid ho1
  have hfW := (hf1.alloc o1).alloc o1
  rw [ho1] at hfW
  clear hf2 hhas hm h0 hc0 hmin hco ho1
  go_enter Tryz.func50, Tryz.ntmps50
  go_wp2_with (first
    | (at_range; refine wpList_range_own _ rfl _ 61 rfl 75 3 klaw und41 _ bf n _ rfl hfW ?_; intro w0 hrg0 hg0 hs0)
    | fail)
  go_frame
  rw [← Ho1.out] at hrg0 hg0 hs0 ⊢
  have hsa : ((w.alloc o1).alloc o1).heap.size = w.heap.size + 1 + 1 := by rw [size_alloc, size_alloc]
  rw [hsa] at hrg0 hs0 ⊢
  have hbel0 : Below w.heap.size w w0 := (below_alloc2 w o1 o1).grown hg0 (by rw [hsa]; omega) (fun j hj => by cases hj)
  have hz0 : w0.heap[w.heap.size]? = some (.cells #[.int .i64 0, .int .i64 0, .int .i64 0, .int .i64 0, .int .i64 0, .int .i64 0, .int .i64 0] 75 (0, 0)) :=
    (hg0.block _ (by rw [hsa]; omega) (by simp)).trans (by rw [Ho1.out]; exact blk_later (heap_alloc_top _ _) (below_alloc _ _))
  have hz1 : ArT 75 w0 (w.heap.size + 1) [0, 0, 0, 0, 0, 0, 0] :=
    (hg0.block _ (by rw [hsa]; omega) (by simp)).trans (by rw [Ho1.out]; exact heap_alloc_at _ _ (by rw [size_alloc]))
  rw [← hB] at hrg0 hs0 hbel0 hz0 hz1 hbl ⊢
  have Hbel0 := Lib.hid hbel0
  have Hz0 := Lib.hid hz0
  have Hz1 := Lib.hid hz1
  clear hbel0 hg0 hsa hB hz0 hz1 hfW
  go_loopg [4, 5] (Maps.size D) (fun g s4 s5 wr => ∃ (left : Lit → Bool) (fl : Bool) (best : List Int), s4 = .bool fl ∧ RanP wr bf (B + 2) n D left g ∧ (∀ l, left l = true → has D l = true) ∧ B + 2 < wr.heap.size ∧ best.length = 7 ∧ (∀ j, 0 ≤ best.getD j 0 ∧ best.getD j 0 ≤ 1000) ∧
      Hid (Best d D left fl best) ∧ Hid (ArT 75 wr (B + 1) best) ∧ Hid (wr.heap[B]? = some (.cells #[.int .i64 0, .int .i64 0, .int .i64 0, .int .i64 0, .int .i64 0, .int .i64 0, .int .i64 0] 75 (0, 0))) ∧ Hid (Below B w wr))
  case atStart => exact ⟨_, false, _, rfl, hrg0, fun _ h => h, by omega, rfl, fun j => by
    have : ∀ j, ([0, 0, 0, 0, 0, 0, 0] : List Int).getD j 0 = 0 := fun j => by
      match j with
      | 0 | 1 | 2 | 3 | 4 | 5 | 6 => rfl
      | j + 7 => rfl
    rw [this]; omega, Best.start d D, Hz1.out, Hz0.out, Hbel0.out⟩
  case round =>
    obtain ⟨left, fl, best, rfl, hrg, hleft, hsz, hbl7, hbr, hbest, hz1, hz0, hbel⟩ := hrel
    obtain ⟨wx, rfl⟩ : ∃ x : World, x = wr := ⟨_, rfl⟩
    go_wp2_with (first
      | (at_next; refine wpList_next_poly _ rfl _ rfl bf (B + 2) n d D P left gk rfl hrg HF2.out (by omega) hleft ?_ ?_)
      | fail)
    · intro hc0 hl0
      have he := hbest.out.end hl0 H0.out Hhas.out Hm.out
      obtain ⟨t0, t1, t2, t3, t4, t5, t6, hts⟩ := lit7 hbl7
      have hz1' := hz1.out
      rw [hts] at hz1'
      obtain ⟨x0, x1, x2, x3, x4, x5, x6, _, _⟩ := blk7 hz1'
      have Hz0' := Lib.hid hz0.out
      obtain ⟨y0, y1, y2, y3, y4, y5, y6, yf, _⟩ := blk7 hz0.out
      have f0 := yf 0
      have f1 := yf 1
      have f2 := yf 2
      have f3 := yf 3
      have f4 := yf 4
      have f5 := yf 5
      have f6 := yf 6
      have He := Lib.hid (he.symm.trans hts)
      have Hbel := Lib.hid hbel.out
      clear he hts hz1' hz1 hz0 hbel yf hbest
      go_wp2_with fail
      obtain ⟨hset, hfr⟩ := set7 Hz0'.out (.int .i64 t0) (.int .i64 t1) (.int .i64 t2) (.int .i64 t3) (.int .i64 t4) (.int .i64 t5) (.int .i64 t6)
      have hb9 := Hbel.out.trans (hfr.below (B := B) (Nat.le_refl _) (by omega))
      refine bodyPost_ret (results_first _ _ B _ _ _ _ _ _ _ _ rfl hset) rfl ?_
      rw [He.out, kv7]
      refine ⟨rfl, ?_⟩
      rw [← HB.out]
      exact hb9
    · intro a0 a1 a2 a3 a4 a5 a6 c w1 cnt1 hK hlx hwf hat hrg1 hlt hgr1 hs1 hen
      obtain ⟨av, hav⟩ : ∃ av : List Int, av = [a0, a1, a2, a3, a4, a5, a6] := ⟨_, rfl⟩
      have HK := Lib.hid (show K7 d av by rw [hav]; exact hK)
      have Hav := Lib.hid hav
      have Hlx := Lib.hid (show left (kl av) = true by rw [hav]; exact hlx)
      have Hrg1 := Lib.hid (show RanP w1 bf (B + 2) n D (fun z => left z && !z.sameKey (kl av)) cnt1 by rw [hav]; exact hrg1)
      have Hz1a := Lib.hid (show ArT 75 w1 (B + 1) best from (hgr1.block (B + 1) (by omega) (by intro h; injection h with h; omega)).trans hz1.out)
      have Hz0a := Lib.hid ((hgr1.block B (by omega) (by intro h; injection h with h; omega)).trans hz0.out)
      have Hbel1 := Lib.hid (hbel.out.grown hgr1 (by omega) (fun j hj => by injection hj with hj; omega))
      obtain ⟨W, hW⟩ : ∃ W, W = w1.alloc (.cells #[.int .i64 a0, .int .i64 a1, .int .i64 a2, .int .i64 a3, .int .i64 a4, .int .i64 a5, .int .i64 a6] 75) := ⟨_, rfl⟩
      have HzW := Lib.hid (show ArT 75 W wx.heap.size av by rw [hW, hav]; exact heap_alloc_at _ _ hs1.symm)
      have Hz1W := Lib.hid (show ArT 75 W (B + 1) best by rw [hW]; exact (heap_alloc_low _ _ (by omega)).trans Hz1a.out)
      have Hz0W := Lib.hid (show W.heap[B]? = some (.cells #[.int .i64 0, .int .i64 0, .int .i64 0, .int .i64 0, .int .i64 0, .int .i64 0, .int .i64 0] 75 (0, 0)) by rw [hW]; exact (heap_alloc_low _ _ (by omega)).trans Hz0a.out)
      have HrgW := Lib.hid (show RanP W bf (B + 2) n D (fun z => left z && !z.sameKey (kl av)) cnt1 by rw [hW]; exact Hrg1.out.alloc _)
      have HbelW := Lib.hid (show Below B w W by rw [hW]; exact Hbel1.out.alloc (by omega) _)
      have hszW : W.heap.size = wx.heap.size + 1 := by rw [hW, size_alloc, hs1]
      have HW := Lib.hid hW
      clear hav hK hlx hwf hat hrg1 hgr1 hW Hz1a Hz0a Hrg1 Hbel1 hz1 hz0 hbel hrg
      obtain ⟨qb, hqb⟩ : ∃ qb, qb = (!fl || ltT av best) := ⟨_, rfl⟩
      have Hqb := Lib.hid hqb
      clear hqb
      go_upto_region 6 with fail
      rw [← HW.out]
      go_cut [20] (fun s20 wc => s20 = .bool qb ∧ Qt W wc)
      case first =>
        cases fl with
        | false =>
          have Hf := Lib.hid (show qb = true by rw [Hqb.out]; rfl)
          go_quiet (fail)
          go_wp2_with fail
          go_meet
          exact ⟨by rw [Hf.out], ⟨nq, rfl⟩⟩
        | true =>
          have hx0 := HzW.out.cell (j := 0) (by rw [HK.out.1]; omega)
          have hy0 := Hz1W.out.cell (j := 0) (by rw [hbl7]; omega)
          obtain ⟨cc, hcc⟩ : ∃ cc, cc = cmpT av best := ⟨_, rfl⟩
          have hq : ∀ q, Calls Tryz.prog 68 #[.slice (some ⟨wx.heap.size, 0, none⟩) 7 7, .slice (some ⟨B + 1, 0, none⟩) 7 7] (W.drewN q) fun e w' => e = .returned (.int .i64 cc) ∧ Qt (W.drewN q) w' := fun q => by
            rw [hcc]
            exact byTerms_any _ _ av best _ ((HzW.out.ints HK.out.1).drewN q) ((Hz1W.out.ints hbl7).drewN q) HK.out.1 hbl7 (fun j => by have := HK.out.rng j; omega) (fun j => by have := hbr j; omega)
          have Hq := Lib.hid hq
          have Hf := Lib.hid (show qb = decide (cc < 0) by rw [Hqb.out, hcc, ← cmpT_neg HK.out.1 hbl7]; rfl)
          clear hq hcc hx0 hy0
          by_cases hc0 : cc < 0
          · have Hf2 := Lib.hid (show qb = true by rw [Hf.out]; exact decide_eq_true hc0)
            go_quiet (first | (go_at_call 68; refine quiet_q (Hq.out _)))
            go_wp2_with fail
            go_meet
            exact ⟨by rw [Hf2.out], ⟨nq, rfl⟩⟩
          · have Hf2 := Lib.hid (show qb = false by rw [Hf.out]; exact decide_eq_false hc0)
            go_quiet (first | (go_at_call 68; refine quiet_q (Hq.out _)))
            go_wp2_with fail
            go_meet
            exact ⟨by rw [Hf2.out], ⟨nq, rfl⟩⟩
      case rest =>
        obtain ⟨rfl, hq6⟩ := hcut
        obtain ⟨w6, rfl⟩ : ∃ x : World, x = wc := ⟨_, rfl⟩
        have Hb6 := Lib.hid (hq6.below W.heap.size)
        have hs6 := hq6.size
        have HzA := Lib.hid (HzW.out.below Hb6.out)
        have HzB := Lib.hid (Hz1W.out.below Hb6.out)
        have HzC := Lib.hid (blk_later Hz0W.out Hb6.out)
        have Hrg6 := Lib.hid (HrgW.out.kept (row := none) ⟨Hb6.out.os, Hb6.out.tape, Hb6.out.output, Hb6.out.size, fun i hi _ => Hb6.out.block i hi⟩ (by simp) (by simp))
        have Hbel6 := Lib.hid (HbelW.out.trans (Hb6.out.mono (by omega)))
        clear hq6
        cases qb with
        | false =>
          have hfl : fl = true ∧ ltT av best = false := by
            have := Hqb.out
            cases fl with
            | false => cases this
            | true => exact ⟨rfl, by simpa using this.symm⟩
          have hn := hfl.2
          have Hn := Lib.hid hn
          have Hfl := Lib.hid hfl.1
          clear hn hfl
          go_wp2_with fail
          go_roundg cnt1
          case measure => exact hlt
          case rel =>
            exact ⟨_, fl, best, rfl, Hrg6.out, has_sub hleft, by omega, hbl7, hbr, by
              have h := hbest.out
              rw [Hfl.out] at h ⊢
              exact h.same (by omega) HK.out Hlx.out Hn.out, HzB.out, HzC.out, Hbel6.out⟩
        | true =>
          have hzA := HzA.out
          rw [Hav.out] at hzA
          obtain ⟨x0, x1, x2, x3, x4, x5, x6, _, _⟩ := blk7 hzA
          have hzB := HzB.out
          obtain ⟨t0, t1, t2, t3, t4, t5, t6, hts⟩ := lit7 hbl7
          rw [hts] at hzB
          obtain ⟨y0, y1, y2, y3, y4, y5, y6, yf, _⟩ := blk7 hzB
          have f0 := yf 0
          have f1 := yf 1
          have f2 := yf 2
          have f3 := yf 3
          have f4 := yf 4
          have f5 := yf 5
          have f6 := yf 6
          have HzB' := Lib.hid hzB
          have Hnew := Lib.hid (Best.new (by omega) hbest.out HK.out Hlx.out (hleft _ Hlx.out) (fun hfl => by
            have := Hqb.out
            rw [hfl] at this
            simpa using this.symm))
          clear hzA hzB yf hts
          go_wp2_with fail
          go_roundg cnt1
          case measure => exact hlt
          case rel =>
            obtain ⟨hset, hfr⟩ := set7 HzB'.out (.int .i64 a0) (.int .i64 a1) (.int .i64 a2) (.int .i64 a3) (.int .i64 a4) (.int .i64 a5) (.int .i64 a6)
            refine ⟨_, true, av, rfl, Hrg6.out.kept (frm_gb hfr) (by intro h; injection h with h; omega) (by intro h; injection h with h; omega), has_sub hleft, by have := hfr.size; omega, HK.out.1, fun j => by have := HK.out.rng j; omega, Hnew.out, ?_, ?_, ?_⟩
            · show ArT _ _ _ av
              rw [Hav.out]
              exact hset
            · exact (hfr.block B (by omega) (Or.inl (by omega))).trans HzC.out
            · exact Hbel6.out.trans (hfr.below (by omega) (by omega))

end Go.Proofs.YtgebjjpcgakjgaaGreat

namespace Go.Proofs.YtgebjjpcgakjgaaGreat
set_option linter.all false
open Go.RowKit

def OwnCd (w : World) (lo hi : Nat) (v : Value) (cs : List Cls) : Prop :=
  ∃ f, OwnS w lo hi 34 2 v cs.length (clF cs f) ∧ (∀ i, i < cs.length → OwnI 3 w lo hi (f i) (cs.getD i clD).1) ∧
    ∀ i j, i < j → j < cs.length → ∀ k, (f i).ownBlock = some k → (f j).ownBlock ≠ some k
namespace OwnCd
variable {w w' : World} {lo hi : Nat} {v : Value} {cs : List Cls}
theorem cl (h : OwnCd w lo hi v cs) : OwnCl w lo hi v cs := by
  obtain ⟨f, h1, h2, _⟩ := h
  exact ⟨f, h1, h2⟩
theorem rd (h : OwnCd w lo hi v cs) : RdCl w v cs := h.cl.rd
theorem keep (h : OwnCd w lo hi v cs) (hb : ∀ k, lo ≤ k → k < hi → k < w.heap.size → w'.heap[k]? = w.heap[k]?) : OwnCd w' lo hi v cs := by
  obtain ⟨f, h1, h2, h3⟩ := h
  exact ⟨f, h1.keep hb, fun i hi => Own.keep (h2 i hi) hb, h3⟩
theorem below (h : OwnCd w lo hi v cs) (hb : Below w.heap.size w w') : OwnCd w' lo hi v cs := h.keep fun k _ _ h3 => hb.block k h3
theorem frm {lo' hi' : Nat} (h : OwnCd w lo hi v cs) (hb : Frm lo' hi' w w') (ho : hi ≤ lo' ∨ hi' ≤ lo) : OwnCd w' lo hi v cs := h.keep fun k h1 h2 h3 => hb.block k h3 (by omega)
theorem mono {lo' hi' : Nat} (h : OwnCd w lo hi v cs) (h1 : lo' ≤ lo) (h2 : hi ≤ hi') : OwnCd w lo' hi' v cs := by
  obtain ⟨f, g1, g2, g3⟩ := h
  exact ⟨f, g1.mono h1 h2, fun i hi => (g2 i hi).mono h1 h2, g3⟩
theorem shape (h : OwnCd w lo hi v cs) : ∃ p cap, v = .slice p cs.length cap ∧ cs.length ≤ cap ∧ cap ≤ maxLen := h.cl.shape
theorem nil (w : World) (lo hi : Nat) : OwnCd w lo hi (.slice none 0 0) [] := ⟨fun _ => undef, OwnS.nil _ _ _ _ _ _, fun i hi => absurd hi (Nat.not_lt_zero _), fun i j _ hj => absurd hj (Nat.not_lt_zero _)⟩
theorem made0 (w : World) : OwnCd (w.alloc (.cells #[] 34)) w.heap.size (w.heap.size + 1) (.slice (some ⟨w.heap.size, 0, none⟩) 0 0) [] :=
  ⟨fun _ => undef, OwnS.made0 _ _ _ _, fun i hi => absurd hi (Nat.not_lt_zero _), fun i j _ hj => absurd hj (Nat.not_lt_zero _)⟩
theorem getD_snoc {cs : List Cls} {m : Cls} {i : Nat} : (cs ++ [m]).getD i clD = if i < cs.length then cs.getD i clD else if i = cs.length then m else clD := by
  by_cases h : i < cs.length
  · rw [if_pos h]; simp [List.getD_eq_getElem?_getD, List.getElem?_append_left h]
  · rw [if_neg h]
    by_cases e : i = cs.length
    · subst e; simp [List.getD_eq_getElem?_getD]
    · rw [if_neg e]; simp [List.getD_eq_getElem?_getD]; rw [List.getElem?_eq_none (by simp; omega)]; rfl
/-- a class of its own is put behind the others -/
theorem snoc {v' x : Value} {m : Cls} {mid : Nat} {f : Nat → Value} (g1 : OwnS w lo mid 34 2 v cs.length (clF cs f)) (g2 : ∀ i, i < cs.length → OwnI 3 w lo mid (f i) (cs.getD i clD).1)
    (g3 : ∀ i j, i < j → j < cs.length → ∀ k, (f i).ownBlock = some k → (f j).ownBlock ≠ some k) (hx : OwnI 3 w mid hi x m.1) (hm : lo ≤ mid) (hmh : mid ≤ hi)
    (hg : w.grownBy w' v.ownBlock) (hsz : hi ≤ w'.heap.size)
    (hv : OwnS w' lo w'.heap.size 34 2 v' (cs.length + 1) (fun i => if i < cs.length then clF cs f i else fun j => match j with | 0 => x | _ => .int .i64 m.2)) : OwnCd w' lo w'.heap.size v' (cs ++ [m]) := by
  have hrow : ∀ (y : Value) (ys : List Int) (lo1 hi1 : Nat), OwnI 3 w lo1 hi1 y ys → OwnI 3 w' lo1 hi1 y ys := fun y ys lo1 hi1 hy =>
    ⟨ownsRow_of_block hy.1 fun k hk => hg.block k (Own.block hy hk).2.2 fun e => ne_of_kinds (g1.kind k e.symm) (OwnI.kind hy k hk) (by decide), hy.2⟩
  refine ⟨fun i => if i < cs.length then f i else x, by
    rw [List.length_append]
    refine hv.congr fun i hi j hj => ?_
    by_cases h : i < cs.length
    · rw [if_pos h]
      unfold clF
      rw [getD_snoc, if_pos h]
      have : j = 0 ∨ j = 1 := by omega
      rcases this with rfl | rfl
      · show f i = if i < cs.length then f i else x
        rw [if_pos h]
      · rfl
    · have e : i = cs.length := by omega
      rw [if_neg h]
      unfold clF
      rw [getD_snoc, if_neg h, if_pos e]
      have : j = 0 ∨ j = 1 := by omega
      rcases this with rfl | rfl
      · show x = if i < cs.length then f i else x
        rw [if_neg h]
      · rfl, fun i hi => ?_, fun i j hij hj k hk => ?_⟩
  · rw [List.length_append] at hi
    simp only [List.length_singleton] at hi
    rw [getD_snoc]
    by_cases h : i < cs.length
    · simp only [h, if_true]
      exact (hrow _ _ _ _ (g2 i h)).mono (Nat.le_refl _) (by omega)
    · have : i = cs.length := by omega
      simp only [h, if_false]
      rw [if_pos this]
      exact (hrow _ _ _ _ hx).mono hm hsz
  · rw [List.length_append] at hj
    simp only [List.length_singleton] at hj
    simp only [show i < cs.length by omega, if_true] at hk
    by_cases h : j < cs.length
    · simp only [h, if_true]
      exact g3 i j hij h k hk
    · simp only [h, if_false]
      intro e
      have h5 := (Own.block (g2 i (by omega)) hk).2.1
      have h6 := (Own.block hx e).1
      omega
end OwnCd

end Go.Proofs.YtgebjjpcgakjgaaGreat
