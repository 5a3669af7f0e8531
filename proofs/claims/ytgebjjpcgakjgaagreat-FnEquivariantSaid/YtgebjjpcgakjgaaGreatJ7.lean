/-
  divided: the divided difference of a polynomial. (Printed by gen_div.py.)
-/
import Derived.Test.YtgebjjpcgakjgaaGreatJ6
namespace Go.Proofs.YtgebjjpcgakjgaaGreat
set_option linter.all false
set_option maxRecDepth 100000
open Go.RowKit Go.Maps Go.WideMaps Go.WideElems Go.MapKept Go.ChangeMaps Go.ChangeShapes

def dvS (i : Nat) (e : List Int) (s t : Int) : List Int := (e.set (i + 1) t).set i (s - 1 - t)
/-- the terms that come of one: numbers lo .. hi - 1 -/
def dvK (i : Nat) (e : List Int) (lo hi : Int) (c : Int) (n : Nat) : Pl := (List.range n).map fun (j : Nat) => (dvS i e (lo + hi) (lo + (j : Int)), c)
def dvE (i : Nat) (e : List Int) : Pl :=
  if e.getD i 0 < e.getD (i + 1) 0 then dvK i e (e.getD i 0) (e.getD (i + 1) 0) (-1) (e.getD (i + 1) 0 - e.getD i 0).toNat
  else dvK i e (e.getD (i + 1) 0) (e.getD i 0) 1 (e.getD i 0 - e.getD (i + 1) 0).toNat
def dvP (i : Nat) (P : Pl) : Pl := P.flatMap fun p => sclP p.2 (dvE i p.1)
theorem Ev_dv (i : Nat) (P : Pl) (g : List Int → Int) : Ev (dvP i P) g = Ev P fun e => Ev (dvE i e) g := by
  induction P with
  | nil => rfl
  | cons p l ih =>
    show Ev (sclP p.2 (dvE i p.1) ++ dvP i l) g = p.2 * Ev (dvE i p.1) g + Ev l _
    rw [Ev_append, ih, Ev_scl, Ev_mul]
theorem dvK_succ (i : Nat) (e : List Int) (lo hi c : Int) (n : Nat) : dvK i e lo hi c (n + 1) = dvK i e lo hi c n ++ [(dvS i e (lo + hi) (lo + (n : Int)), c)] := by
  unfold dvK
  rw [List.range_succ, List.map_append]
  rfl
theorem Ev_dvK (i : Nat) (e : List Int) (lo hi c c' sg : Int) (h : Cg c' (c * sg)) (g : List Int → Int) : ∀ n, Cg (Ev (dvK i e lo hi c' n) g) (c * Ev (dvK i e lo hi sg n) g)
  | 0 => Cg.of _ _ (by simp [dvK, Ev])
  | n + 1 => by
    rw [dvK_succ, dvK_succ, Ev_append, Ev_append, Int.mul_add]
    refine (Ev_dvK i e lo hi c c' sg h g n).add ?_
    simp only [Ev, Int.add_zero]
    rw [← Int.mul_assoc]
    exact h.mul (Cg.refl _)
theorem cnt_room {N g c d T : Nat} (h : N + g * d ≤ T) (hc : c < g) : N + d + c * d ≤ T := by
  have := Nat.mul_le_mul_right d hc
  have e : (c + 1) * d = c * d + d := by rw [Nat.add_mul, Nat.one_mul]
  rw [Nat.succ_eq_add_one, e] at this
  omega
theorem dvE_le {i : Nat} {e : List Int} (h : e.getD i 0 < e.getD (i + 1) 0) : dvE i e = dvK i e (e.getD i 0) (e.getD (i + 1) 0) (-1) (e.getD (i + 1) 0 - e.getD i 0).toNat := if_pos h
theorem dvE_ge {i : Nat} {e : List Int} (h : ¬ e.getD i 0 < e.getD (i + 1) 0) : dvE i e = dvK i e (e.getD (i + 1) 0) (e.getD i 0) 1 (e.getD i 0 - e.getD (i + 1) 0).toNat := if_neg h

theorem gb_setCell (w : World) (b j : Nat) (u : Value) : w.grownBy (w.setCell ⟨b, j, none⟩ u) (some b) :=
  ⟨rfl, rfl, rfl, by rw [size_setCell]; exact Nat.le_refl _, fun k _ hk => Below.heap_setCell _ _ _ _ (fun e => hk (by rw [e]))⟩
theorem K7.dv {d i : Nat} {e : List Int} (h : K7 d e) {t s : Int} (h1 : 0 ≤ t ∧ t ≤ (d : Int)) (h2 : 0 ≤ s - 1 - t ∧ s - 1 - t ≤ (d : Int)) : K7 d (dvS i e s t) := by
  refine ⟨by unfold dvS; simpa using h.1, fun x hx => ?_⟩
  rcases List.mem_or_eq_of_mem_set hx with hx | rfl
  · rcases List.mem_or_eq_of_mem_set hx with hx | rfl
    · exact h.2 x hx
    · exact h1
  · exact h2

set_option maxRecDepth 100000 in
set_option maxHeartbeats 16000000 in
theorem divided_any (u : Value) (i d nf : Nat) (P : Pl) (w : World) (hf : PolV w u d nf P) (hi : i < 4) (hd : d < 1000000) (hn : nf * d < 1000000000000000) :
    Calls Tryz.prog 58 #[u, .int .i64 (i : Int)] w fun e w' => ∃ u', e = .returned u' ∧ PolV w' u' d (nf * d) (dvP i P) ∧ Below w.heap.size w w' := by
  obtain ⟨bf, Df, rfl, hf1, hf2⟩ := hf
  have hmm := @run_makeMap Tryz.prog
  have hblf := hf1.lt
  have hszf := hf1.size_le
  have e1 : (w.alloc (.map #[] 0)).heap.size = w.heap.size + 1 := by simp
  have HF2 := Lib.hid hf2
  obtain ⟨B, hB⟩ : ∃ B, B = w.heap.size := ⟨_, rfl⟩
  have HB := Lib.hid hB
  have hG0 := Lib.hid (Gath.start (T := fun g e => Ev (dvE i e) g) hf1 hf2)
  have hi' : i = 0 ∨ i = 1 ∨ i = 2 ∨ i = 3 := by omega
  obtain ⟨ii, hii⟩ : ∃ ii : Nat, ii = i := ⟨_, rfl⟩
  have Hii := Lib.hid hii
  rw [← hii] at hG0
  obtain ⟨T, hT⟩ : ∃ T, T = nf * d := ⟨_, rfl⟩
  have hT0 : Maps.size Df * d ≤ T := by rw [hT]; exact Nat.mul_le_mul_right _ hszf
  show Calls Tryz.prog 58 #[.map (some bf), .int .i64 (i : Int)] w fun e w' => ∃ u', e = .returned u' ∧ PolV w' u' d (nf * d) (dvP i P) ∧ Below w.heap.size w w'
  rw [← hT] at hn ⊢
  conv in dvP i P => rw [← hii]
  clear hf2 hii hT
  go_enter Tryz.func58, Tryz.ntmps58
  go_wp2_with (first
    | (at_range; refine wpList_range_own _ rfl _ 61 rfl 75 3 klaw und41 _ bf nf _ rfl (hf1.alloc _) ?_; intro w0 hrg0 hg0 hs0)
    | fail)
  go_frame
  rw [e1] at hrg0 hs0 ⊢
  have hown0 : OwnMp w0 w.heap.size 0 (.map []) := (World.ownsMap_made _ _ _ _).kept hg0 (by simp)
  have hbel0 : Below w.heap.size w w0 := ((Below.refl _ _).alloc (Nat.le_refl _) _).grown hg0 (by simp) (fun j hj => by cases hj)
  rw [← hB] at hrg0 hs0 hown0 hbel0 hblf ⊢
  have Hbel0 := Lib.hid hbel0
  clear hbel0 hg0 e1 hB
  go_loopg [6, 7, 8, 9, 10] (Maps.size Df) (fun g s6 s7 s8 s9 s10 wr => ∃ (left : Lit → Bool) (Dout : DU) (A : Pl) (N : Nat), RanP wr bf (B + 1) nf Df left g ∧ N + g * d ≤ T ∧ (∀ l, left l = true → has Df l = true) ∧
      OwnMp wr B N Dout ∧ Hid (PolM d Dout A) ∧ Hid (Gath Df P (fun g e => Ev (dvE ii e) g) left A) ∧ Hid (Below B w wr))
  case atStart => exact ⟨_, .map [], [], 0, hrg0, by omega, fun _ h => h, hown0, Lib.hid (PolM.empty _), hG0, Hbel0⟩
  case round =>
    obtain ⟨left, Dout, A, N, hrg, hgs, hleft, hout, hpm, hga, hbel⟩ := hrel
    obtain ⟨wx, rfl⟩ : ∃ x : World, x = wr := ⟨_, rfl⟩
    go_wp2_with (first
      | (at_next; refine wpList_next_poly _ rfl _ rfl bf (B + 1) nf d Df P left gk rfl hrg HF2.out (by omega) hleft ?_ ?_)
      | fail)
    · intro hc0 hl0
      have hend := (hga.out.end hl0)
      go_wp2_with fail
      go_ret
      refine ⟨_, rfl, ⟨B, Dout, rfl, hout.mono (by omega), hpm.out.alt fun g => ?_⟩, HB.out ▸ hbel.out⟩
      rw [Ev_dv]
      exact hend g
    · intro a0 a1 a2 a3 a4 a5 a6 c w1 cnt1 hK hlx hwf hat hrg1 hlt hgr1 hs1 hen
      have Hat := Lib.hid hat
      have Hgr1 := Lib.hid hgr1
      have HK := Lib.hid hK
      have hroom := cnt_room hgs hlt
      have hout1 := hout.kept hgr1 (by intro h; injection h with h; omega)
      have hBx := hout.lt
      have hBr := hrg.lt
      have b0 := hK.2 a0 (by simp)
      have b1 := hK.2 a1 (by simp)
      have b2 := hK.2 a2 (by simp)
      have b3 := hK.2 a3 (by simp)
      have b4 := hK.2 a4 (by simp)
      have b5 := hK.2 a5 (by simp)
      have b6 := hK.2 a6 (by simp)
      have Hbel1 := Lib.hid (hbel.out.grown Hgr1.out (by omega) (fun j hj => by cases hj; omega))
      have hiii := Hii.out
      obtain ⟨E, hE⟩ : ∃ E, E = wx.heap.size := ⟨_, rfl⟩
      have hE1 : w1.heap.size = E := by rw [hs1, hE]
      have hEB : B + 1 < E := by rw [hE]; exact hBr
      have hq0 := heap_alloc_top w1 (.cells #[.int .i64 a0, .int .i64 a1, .int .i64 a2, .int .i64 a3, .int .i64 a4, .int .i64 a5, .int .i64 a6] 75)
      rw [hE1] at hq0
      obtain ⟨f0, f1, f2, f3, f4, f5, f6, ff, _⟩ := blk7 (w := (w1.alloc (.cells #[.int .i64 a0, .int .i64 a1, .int .i64 a2, .int .i64 a3, .int .i64 a4, .int .i64 a5, .int .i64 a6] 75)).drew) hq0
      clear hat hgr1 hK hrg hbel hout
      rcases hi' with h0 | h0 | h0 | h0
      · subst h0
        go_wp2_with fail
        rw [← hE]
        have hrgU : RanP (w1.alloc (.cells #[.int .i64 a0, .int .i64 a1, .int .i64 a2, .int .i64 a3, .int .i64 a4, .int .i64 a5, .int .i64 a6] 75)) bf (B + 1) nf Df (fun z => left z && !z.sameKey (kl [a0, a1, a2, a3, a4, a5, a6])) cnt1 := hrg1.alloc _
        have houtU : OwnMp (w1.alloc (.cells #[.int .i64 a0, .int .i64 a1, .int .i64 a2, .int .i64 a3, .int .i64 a4, .int .i64 a5, .int .i64 a6] 75)) B N Dout := hout1.alloc _
        have hqU : (w1.alloc (.cells #[.int .i64 a0, .int .i64 a1, .int .i64 a2, .int .i64 a3, .int .i64 a4, .int .i64 a5, .int .i64 a6] 75)).heap[E]? = some (.cells #[.int .i64 a0, .int .i64 a1, .int .i64 a2, .int .i64 a3, .int .i64 a4, .int .i64 a5, .int .i64 a6] 75 (0, 0)) := hq0
        have HbelU := Lib.hid (Hbel1.out.alloc (by omega) (.cells #[.int .i64 a0, .int .i64 a1, .int .i64 a2, .int .i64 a3, .int .i64 a4, .int .i64 a5, .int .i64 a6] 75))
        obtain ⟨U, hU⟩ : ∃ U, U = w1.alloc (.cells #[.int .i64 a0, .int .i64 a1, .int .i64 a2, .int .i64 a3, .int .i64 a4, .int .i64 a5, .int .i64 a6] 75) := ⟨_, rfl⟩
        rw [← hU] at hrgU houtU hqU HbelU f0 f1 f2 f3 f4 f5 f6 ⊢
        clear hU hrg1 hout1 hq0 Hbel1 hE hE1
        go_region
        have hrgU : RanP U.drew bf (B + 1) nf Df (fun z => left z && !z.sameKey (kl [a0, a1, a2, a3, a4, a5, a6])) cnt1 := hrgU
        have houtU : OwnMp U.drew B N Dout := houtU
        have hqU : U.drew.heap[E]? = some (.cells #[.int .i64 a0, .int .i64 a1, .int .i64 a2, .int .i64 a3, .int .i64 a4, .int .i64 a5, .int .i64 a6] 75 (0, 0)) := hqU
        have HbelU := Lib.hid (Below.drewN HbelU.out 1)
        by_cases hxy : a0 < a1
        · go_wp2_with fail
          obtain ⟨len, hlen⟩ : ∃ len : Nat, len = (a1 - a0).toNat := ⟨_, rfl⟩
          have hlen1 : len ≤ d := by omega
          have hlen2 : a0 + (len : Int) = a1 := by omega
          clear hlen
          go_loopg [10] len (fun g s10 wr => ∃ (s : Nat) (p q : Int) (D2 : DU), s ≤ len ∧ g = len - s ∧ s10 = .int .i64 (a0 + (s : Int)) ∧ RanP wr bf (B + 1) nf Df (fun z => left z && !z.sameKey (kl [a0, a1, a2, a3, a4, a5, a6])) cnt1 ∧
              OwnMp wr B (N + s) D2 ∧ Hid (PolM d D2 (A ++ dvK ii [a0, a1, a2, a3, a4, a5, a6] a0 a1 (wrap64 (-c)) s)) ∧ wr.heap[E]? = some (.cells #[.int .i64 p, .int .i64 q, .int .i64 a2, .int .i64 a3, .int .i64 a4, .int .i64 a5, .int .i64 a6] 75 (0, 0)) ∧ Hid (Below B w wr))
          case atStart => exact ⟨0, a0, a1, Dout, Nat.zero_le _, by omega, by simp, hrgU, houtU, by simpa [dvK] using hpm, hqU, HbelU⟩
          case round =>
            obtain ⟨s, p, q, D2, hs, rfl, rfl, hrg, hout, hpm2, hq, hbel⟩ := hrel
            obtain ⟨wy, rfl⟩ : ∃ x : World, x = wr := ⟨_, rfl⟩
            have hEy := (Array.getElem?_eq_some_iff.1 hq).1
            by_cases hst : s < len
            · have hst2 : a0 + (s : Int) < a1 := by omega
              obtain ⟨f0, f1, f2, f3, f4, f5, f6, ff, _⟩ := blk7 hq
              have fr0 := ff 0
              have fr1 := ff 1
              have hadd := HK.out.dv (i := ii) (t := a0 + (s : Int)) (s := a0 + a1) (by omega) (by omega)
              have hkeyL : dvS ii [a0, a1, a2, a3, a4, a5, a6] (a0 + a1) (a0 + (s : Int)) = [a0 + a1 - 1 - (a0 + (s : Int)), a0 + (s : Int), a2, a3, a4, a5, a6] := by rw [hiii]; rfl
              rw [hkeyL] at hadd
              have Hadd := Lib.hid hadd
              have ho1 := (hout.kept (gb_setCell wy E 1 (.int .i64 (a0 + (s : Int)))) (by intro h; injection h with h; omega)).kept (gb_setCell _ E 0 (.int .i64 (a0 + a1 - 1 - (a0 + (s : Int))))) (by intro h; injection h with h; omega)
              have hr1 := (hrg.kept (gb_setCell wy E 1 (.int .i64 (a0 + (s : Int)))) (by intro h; injection h with h; omega) (by intro h; injection h with h; omega)).kept (gb_setCell _ E 0 (.int .i64 (a0 + a1 - 1 - (a0 + (s : Int))))) (by intro h; injection h with h; omega) (by intro h; injection h with h; omega)
              have hq1 := heap_setCell_at (heap_setCell_at hq 1 (.int .i64 (a0 + (s : Int)))) 0 (.int .i64 (a0 + a1 - 1 - (a0 + (s : Int))))
              have hb1 := Lib.hid ((hbel.out.setCell (p := ⟨E, 1, none⟩) (by show B ≤ E; omega) (.int .i64 (a0 + (s : Int)))).setCell (p := ⟨E, 0, none⟩) (by show B ≤ E; omega) (.int .i64 (a0 + a1 - 1 - (a0 + (s : Int)))))
              have hByl := hout.lt
              clear hadd
              go_wp2_with fail
              refine (add_any B (N + s) d D2 (A ++ dvK ii [a0, a1, a2, a3, a4, a5, a6] a0 a1 (wrap64 (-c)) s) [a0 + a1 - 1 - (a0 + (s : Int)), a0 + (s : Int), a2, a3, a4, a5, a6] (wrap64 (-c)) _ ho1 hpm2.out Hadd.out (by omega) (by omega)).mono ?_
              rintro e w2 ⟨rfl, D3, ho3, hp3, hg3⟩
              have hrg3 := hr1.kept hg3 (by intro h; injection h with h; omega) (by intro h; injection h with h; omega)
              have hq3 := (hg3.block E (by rw [size_setCell, size_setCell]; exact hEy) (by intro h; injection h with h; omega)).trans hq1
              have Hp3 := Lib.hid hp3
              have Hb3 := Lib.hid (hb1.out.grown hg3 (by rw [size_setCell, size_setCell]; omega) (fun j hj => by cases hj; exact Nat.le_refl _))
              clear hp3 hg3 hq1 ho1 hr1
              go_wp2_with fail
              go_roundg (len - (s + 1))
              case measure => omega
              case rel =>
                refine ⟨s + 1, _, _, D3, by omega, rfl, by go_num, hrg3, ho3, ?_, hq3, Hb3⟩
                rw [dvK_succ, hkeyL, ← List.append_assoc]
                exact Hp3
            · have hst2 : ¬ a0 + (s : Int) < a1 := by omega
              obtain rfl : s = len := by omega
              go_wp2_with fail
              have Hg2 := Lib.hid hga.out
              go_roundg cnt1
              case measure => exact hlt
              case rel =>
                refine ⟨_, D2, _, N + s, hrg, by omega, has_sub hleft, hout, hpm2, Lib.hid (hga.out.step HF2.out.tidy HK.out (by omega) hlx Hat.out fun g => ?_), hbel⟩
                rw [Ev_append]
                refine (Cg.refl _).add ?_
                have hE' : dvE ii [a0, a1, a2, a3, a4, a5, a6] = dvK ii [a0, a1, a2, a3, a4, a5, a6] a0 a1 (-1) s := by
                  rw [show s = (a1 - a0).toNat by omega, hiii]
                  exact dvE_le (i := 0) (by show a0 < a1; omega)
                rw [hE']
                exact Ev_dvK _ _ _ _ _ _ _ ((cg_wrap _).trans (Cg.of _ _ (by omega))) g s
        · go_wp2_with fail
          obtain ⟨len, hlen⟩ : ∃ len : Nat, len = (a0 - a1).toNat := ⟨_, rfl⟩
          have hlen1 : len ≤ d := by omega
          have hlen2 : a1 + (len : Int) = a0 := by omega
          clear hlen
          go_loopg [10] len (fun g s10 wr => ∃ (s : Nat) (p q : Int) (D2 : DU), s ≤ len ∧ g = len - s ∧ s10 = .int .i64 (a1 + (s : Int)) ∧ RanP wr bf (B + 1) nf Df (fun z => left z && !z.sameKey (kl [a0, a1, a2, a3, a4, a5, a6])) cnt1 ∧
              OwnMp wr B (N + s) D2 ∧ Hid (PolM d D2 (A ++ dvK ii [a0, a1, a2, a3, a4, a5, a6] a1 a0 c s)) ∧ wr.heap[E]? = some (.cells #[.int .i64 p, .int .i64 q, .int .i64 a2, .int .i64 a3, .int .i64 a4, .int .i64 a5, .int .i64 a6] 75 (0, 0)) ∧ Hid (Below B w wr))
          case atStart => exact ⟨0, a0, a1, Dout, Nat.zero_le _, by omega, by simp, hrgU, houtU, by simpa [dvK] using hpm, hqU, HbelU⟩
          case round =>
            obtain ⟨s, p, q, D2, hs, rfl, rfl, hrg, hout, hpm2, hq, hbel⟩ := hrel
            obtain ⟨wy, rfl⟩ : ∃ x : World, x = wr := ⟨_, rfl⟩
            have hEy := (Array.getElem?_eq_some_iff.1 hq).1
            by_cases hst : s < len
            · have hst2 : a1 + (s : Int) < a0 := by omega
              obtain ⟨f0, f1, f2, f3, f4, f5, f6, ff, _⟩ := blk7 hq
              have fr0 := ff 0
              have fr1 := ff 1
              have hadd := HK.out.dv (i := ii) (t := a1 + (s : Int)) (s := a1 + a0) (by omega) (by omega)
              have hkeyL : dvS ii [a0, a1, a2, a3, a4, a5, a6] (a1 + a0) (a1 + (s : Int)) = [a1 + a0 - 1 - (a1 + (s : Int)), a1 + (s : Int), a2, a3, a4, a5, a6] := by rw [hiii]; rfl
              rw [hkeyL] at hadd
              have Hadd := Lib.hid hadd
              have ho1 := (hout.kept (gb_setCell wy E 1 (.int .i64 (a1 + (s : Int)))) (by intro h; injection h with h; omega)).kept (gb_setCell _ E 0 (.int .i64 (a1 + a0 - 1 - (a1 + (s : Int))))) (by intro h; injection h with h; omega)
              have hr1 := (hrg.kept (gb_setCell wy E 1 (.int .i64 (a1 + (s : Int)))) (by intro h; injection h with h; omega) (by intro h; injection h with h; omega)).kept (gb_setCell _ E 0 (.int .i64 (a1 + a0 - 1 - (a1 + (s : Int))))) (by intro h; injection h with h; omega) (by intro h; injection h with h; omega)
              have hq1 := heap_setCell_at (heap_setCell_at hq 1 (.int .i64 (a1 + (s : Int)))) 0 (.int .i64 (a1 + a0 - 1 - (a1 + (s : Int))))
              have hb1 := Lib.hid ((hbel.out.setCell (p := ⟨E, 1, none⟩) (by show B ≤ E; omega) (.int .i64 (a1 + (s : Int)))).setCell (p := ⟨E, 0, none⟩) (by show B ≤ E; omega) (.int .i64 (a1 + a0 - 1 - (a1 + (s : Int)))))
              have hByl := hout.lt
              clear hadd
              go_wp2_with fail
              refine (add_any B (N + s) d D2 (A ++ dvK ii [a0, a1, a2, a3, a4, a5, a6] a1 a0 c s) [a1 + a0 - 1 - (a1 + (s : Int)), a1 + (s : Int), a2, a3, a4, a5, a6] c _ ho1 hpm2.out Hadd.out (by omega) (by omega)).mono ?_
              rintro e w2 ⟨rfl, D3, ho3, hp3, hg3⟩
              have hrg3 := hr1.kept hg3 (by intro h; injection h with h; omega) (by intro h; injection h with h; omega)
              have hq3 := (hg3.block E (by rw [size_setCell, size_setCell]; exact hEy) (by intro h; injection h with h; omega)).trans hq1
              have Hp3 := Lib.hid hp3
              have Hb3 := Lib.hid (hb1.out.grown hg3 (by rw [size_setCell, size_setCell]; omega) (fun j hj => by cases hj; exact Nat.le_refl _))
              clear hp3 hg3 hq1 ho1 hr1
              go_wp2_with fail
              go_roundg (len - (s + 1))
              case measure => omega
              case rel =>
                refine ⟨s + 1, _, _, D3, by omega, rfl, by go_num, hrg3, ho3, ?_, hq3, Hb3⟩
                rw [dvK_succ, hkeyL, ← List.append_assoc]
                exact Hp3
            · have hst2 : ¬ a1 + (s : Int) < a0 := by omega
              obtain rfl : s = len := by omega
              go_wp2_with fail
              have Hg2 := Lib.hid hga.out
              go_roundg cnt1
              case measure => exact hlt
              case rel =>
                refine ⟨_, D2, _, N + s, hrg, by omega, has_sub hleft, hout, hpm2, Lib.hid (hga.out.step HF2.out.tidy HK.out (by omega) hlx Hat.out fun g => ?_), hbel⟩
                rw [Ev_append]
                refine (Cg.refl _).add ?_
                have hE' : dvE ii [a0, a1, a2, a3, a4, a5, a6] = dvK ii [a0, a1, a2, a3, a4, a5, a6] a1 a0 1 s := by
                  rw [show s = (a0 - a1).toNat by omega, hiii]
                  exact dvE_ge (i := 0) (by show ¬ a0 < a1; omega)
                rw [hE']
                exact Ev_dvK _ _ _ _ _ _ _ (Cg.of _ _ (by omega)) g s
      · subst h0
        go_wp2_with fail
        rw [← hE]
        have hrgU : RanP (w1.alloc (.cells #[.int .i64 a0, .int .i64 a1, .int .i64 a2, .int .i64 a3, .int .i64 a4, .int .i64 a5, .int .i64 a6] 75)) bf (B + 1) nf Df (fun z => left z && !z.sameKey (kl [a0, a1, a2, a3, a4, a5, a6])) cnt1 := hrg1.alloc _
        have houtU : OwnMp (w1.alloc (.cells #[.int .i64 a0, .int .i64 a1, .int .i64 a2, .int .i64 a3, .int .i64 a4, .int .i64 a5, .int .i64 a6] 75)) B N Dout := hout1.alloc _
        have hqU : (w1.alloc (.cells #[.int .i64 a0, .int .i64 a1, .int .i64 a2, .int .i64 a3, .int .i64 a4, .int .i64 a5, .int .i64 a6] 75)).heap[E]? = some (.cells #[.int .i64 a0, .int .i64 a1, .int .i64 a2, .int .i64 a3, .int .i64 a4, .int .i64 a5, .int .i64 a6] 75 (0, 0)) := hq0
        have HbelU := Lib.hid (Hbel1.out.alloc (by omega) (.cells #[.int .i64 a0, .int .i64 a1, .int .i64 a2, .int .i64 a3, .int .i64 a4, .int .i64 a5, .int .i64 a6] 75))
        obtain ⟨U, hU⟩ : ∃ U, U = w1.alloc (.cells #[.int .i64 a0, .int .i64 a1, .int .i64 a2, .int .i64 a3, .int .i64 a4, .int .i64 a5, .int .i64 a6] 75) := ⟨_, rfl⟩
        rw [← hU] at hrgU houtU hqU HbelU f0 f1 f2 f3 f4 f5 f6 ⊢
        clear hU hrg1 hout1 hq0 Hbel1 hE hE1
        go_region
        have hrgU : RanP U.drew bf (B + 1) nf Df (fun z => left z && !z.sameKey (kl [a0, a1, a2, a3, a4, a5, a6])) cnt1 := hrgU
        have houtU : OwnMp U.drew B N Dout := houtU
        have hqU : U.drew.heap[E]? = some (.cells #[.int .i64 a0, .int .i64 a1, .int .i64 a2, .int .i64 a3, .int .i64 a4, .int .i64 a5, .int .i64 a6] 75 (0, 0)) := hqU
        have HbelU := Lib.hid (Below.drewN HbelU.out 1)
        by_cases hxy : a1 < a2
        · go_wp2_with fail
          obtain ⟨len, hlen⟩ : ∃ len : Nat, len = (a2 - a1).toNat := ⟨_, rfl⟩
          have hlen1 : len ≤ d := by omega
          have hlen2 : a1 + (len : Int) = a2 := by omega
          clear hlen
          go_loopg [10] len (fun g s10 wr => ∃ (s : Nat) (p q : Int) (D2 : DU), s ≤ len ∧ g = len - s ∧ s10 = .int .i64 (a1 + (s : Int)) ∧ RanP wr bf (B + 1) nf Df (fun z => left z && !z.sameKey (kl [a0, a1, a2, a3, a4, a5, a6])) cnt1 ∧
              OwnMp wr B (N + s) D2 ∧ Hid (PolM d D2 (A ++ dvK ii [a0, a1, a2, a3, a4, a5, a6] a1 a2 (wrap64 (-c)) s)) ∧ wr.heap[E]? = some (.cells #[.int .i64 a0, .int .i64 p, .int .i64 q, .int .i64 a3, .int .i64 a4, .int .i64 a5, .int .i64 a6] 75 (0, 0)) ∧ Hid (Below B w wr))
          case atStart => exact ⟨0, a1, a2, Dout, Nat.zero_le _, by omega, by simp, hrgU, houtU, by simpa [dvK] using hpm, hqU, HbelU⟩
          case round =>
            obtain ⟨s, p, q, D2, hs, rfl, rfl, hrg, hout, hpm2, hq, hbel⟩ := hrel
            obtain ⟨wy, rfl⟩ : ∃ x : World, x = wr := ⟨_, rfl⟩
            have hEy := (Array.getElem?_eq_some_iff.1 hq).1
            by_cases hst : s < len
            · have hst2 : a1 + (s : Int) < a2 := by omega
              obtain ⟨f0, f1, f2, f3, f4, f5, f6, ff, _⟩ := blk7 hq
              have fr0 := ff 1
              have fr1 := ff 2
              have hadd := HK.out.dv (i := ii) (t := a1 + (s : Int)) (s := a1 + a2) (by omega) (by omega)
              have hkeyL : dvS ii [a0, a1, a2, a3, a4, a5, a6] (a1 + a2) (a1 + (s : Int)) = [a0, a1 + a2 - 1 - (a1 + (s : Int)), a1 + (s : Int), a3, a4, a5, a6] := by rw [hiii]; rfl
              rw [hkeyL] at hadd
              have Hadd := Lib.hid hadd
              have ho1 := (hout.kept (gb_setCell wy E 2 (.int .i64 (a1 + (s : Int)))) (by intro h; injection h with h; omega)).kept (gb_setCell _ E 1 (.int .i64 (a1 + a2 - 1 - (a1 + (s : Int))))) (by intro h; injection h with h; omega)
              have hr1 := (hrg.kept (gb_setCell wy E 2 (.int .i64 (a1 + (s : Int)))) (by intro h; injection h with h; omega) (by intro h; injection h with h; omega)).kept (gb_setCell _ E 1 (.int .i64 (a1 + a2 - 1 - (a1 + (s : Int))))) (by intro h; injection h with h; omega) (by intro h; injection h with h; omega)
              have hq1 := heap_setCell_at (heap_setCell_at hq 2 (.int .i64 (a1 + (s : Int)))) 1 (.int .i64 (a1 + a2 - 1 - (a1 + (s : Int))))
              have hb1 := Lib.hid ((hbel.out.setCell (p := ⟨E, 2, none⟩) (by show B ≤ E; omega) (.int .i64 (a1 + (s : Int)))).setCell (p := ⟨E, 1, none⟩) (by show B ≤ E; omega) (.int .i64 (a1 + a2 - 1 - (a1 + (s : Int)))))
              have hByl := hout.lt
              clear hadd
              go_wp2_with fail
              refine (add_any B (N + s) d D2 (A ++ dvK ii [a0, a1, a2, a3, a4, a5, a6] a1 a2 (wrap64 (-c)) s) [a0, a1 + a2 - 1 - (a1 + (s : Int)), a1 + (s : Int), a3, a4, a5, a6] (wrap64 (-c)) _ ho1 hpm2.out Hadd.out (by omega) (by omega)).mono ?_
              rintro e w2 ⟨rfl, D3, ho3, hp3, hg3⟩
              have hrg3 := hr1.kept hg3 (by intro h; injection h with h; omega) (by intro h; injection h with h; omega)
              have hq3 := (hg3.block E (by rw [size_setCell, size_setCell]; exact hEy) (by intro h; injection h with h; omega)).trans hq1
              have Hp3 := Lib.hid hp3
              have Hb3 := Lib.hid (hb1.out.grown hg3 (by rw [size_setCell, size_setCell]; omega) (fun j hj => by cases hj; exact Nat.le_refl _))
              clear hp3 hg3 hq1 ho1 hr1
              go_wp2_with fail
              go_roundg (len - (s + 1))
              case measure => omega
              case rel =>
                refine ⟨s + 1, _, _, D3, by omega, rfl, by go_num, hrg3, ho3, ?_, hq3, Hb3⟩
                rw [dvK_succ, hkeyL, ← List.append_assoc]
                exact Hp3
            · have hst2 : ¬ a1 + (s : Int) < a2 := by omega
              obtain rfl : s = len := by omega
              go_wp2_with fail
              have Hg2 := Lib.hid hga.out
              go_roundg cnt1
              case measure => exact hlt
              case rel =>
                refine ⟨_, D2, _, N + s, hrg, by omega, has_sub hleft, hout, hpm2, Lib.hid (hga.out.step HF2.out.tidy HK.out (by omega) hlx Hat.out fun g => ?_), hbel⟩
                rw [Ev_append]
                refine (Cg.refl _).add ?_
                have hE' : dvE ii [a0, a1, a2, a3, a4, a5, a6] = dvK ii [a0, a1, a2, a3, a4, a5, a6] a1 a2 (-1) s := by
                  rw [show s = (a2 - a1).toNat by omega, hiii]
                  exact dvE_le (i := 1) (by show a1 < a2; omega)
                rw [hE']
                exact Ev_dvK _ _ _ _ _ _ _ ((cg_wrap _).trans (Cg.of _ _ (by omega))) g s
        · go_wp2_with fail
          obtain ⟨len, hlen⟩ : ∃ len : Nat, len = (a1 - a2).toNat := ⟨_, rfl⟩
          have hlen1 : len ≤ d := by omega
          have hlen2 : a2 + (len : Int) = a1 := by omega
          clear hlen
          go_loopg [10] len (fun g s10 wr => ∃ (s : Nat) (p q : Int) (D2 : DU), s ≤ len ∧ g = len - s ∧ s10 = .int .i64 (a2 + (s : Int)) ∧ RanP wr bf (B + 1) nf Df (fun z => left z && !z.sameKey (kl [a0, a1, a2, a3, a4, a5, a6])) cnt1 ∧
              OwnMp wr B (N + s) D2 ∧ Hid (PolM d D2 (A ++ dvK ii [a0, a1, a2, a3, a4, a5, a6] a2 a1 c s)) ∧ wr.heap[E]? = some (.cells #[.int .i64 a0, .int .i64 p, .int .i64 q, .int .i64 a3, .int .i64 a4, .int .i64 a5, .int .i64 a6] 75 (0, 0)) ∧ Hid (Below B w wr))
          case atStart => exact ⟨0, a1, a2, Dout, Nat.zero_le _, by omega, by simp, hrgU, houtU, by simpa [dvK] using hpm, hqU, HbelU⟩
          case round =>
            obtain ⟨s, p, q, D2, hs, rfl, rfl, hrg, hout, hpm2, hq, hbel⟩ := hrel
            obtain ⟨wy, rfl⟩ : ∃ x : World, x = wr := ⟨_, rfl⟩
            have hEy := (Array.getElem?_eq_some_iff.1 hq).1
            by_cases hst : s < len
            · have hst2 : a2 + (s : Int) < a1 := by omega
              obtain ⟨f0, f1, f2, f3, f4, f5, f6, ff, _⟩ := blk7 hq
              have fr0 := ff 1
              have fr1 := ff 2
              have hadd := HK.out.dv (i := ii) (t := a2 + (s : Int)) (s := a2 + a1) (by omega) (by omega)
              have hkeyL : dvS ii [a0, a1, a2, a3, a4, a5, a6] (a2 + a1) (a2 + (s : Int)) = [a0, a2 + a1 - 1 - (a2 + (s : Int)), a2 + (s : Int), a3, a4, a5, a6] := by rw [hiii]; rfl
              rw [hkeyL] at hadd
              have Hadd := Lib.hid hadd
              have ho1 := (hout.kept (gb_setCell wy E 2 (.int .i64 (a2 + (s : Int)))) (by intro h; injection h with h; omega)).kept (gb_setCell _ E 1 (.int .i64 (a2 + a1 - 1 - (a2 + (s : Int))))) (by intro h; injection h with h; omega)
              have hr1 := (hrg.kept (gb_setCell wy E 2 (.int .i64 (a2 + (s : Int)))) (by intro h; injection h with h; omega) (by intro h; injection h with h; omega)).kept (gb_setCell _ E 1 (.int .i64 (a2 + a1 - 1 - (a2 + (s : Int))))) (by intro h; injection h with h; omega) (by intro h; injection h with h; omega)
              have hq1 := heap_setCell_at (heap_setCell_at hq 2 (.int .i64 (a2 + (s : Int)))) 1 (.int .i64 (a2 + a1 - 1 - (a2 + (s : Int))))
              have hb1 := Lib.hid ((hbel.out.setCell (p := ⟨E, 2, none⟩) (by show B ≤ E; omega) (.int .i64 (a2 + (s : Int)))).setCell (p := ⟨E, 1, none⟩) (by show B ≤ E; omega) (.int .i64 (a2 + a1 - 1 - (a2 + (s : Int)))))
              have hByl := hout.lt
              clear hadd
              go_wp2_with fail
              refine (add_any B (N + s) d D2 (A ++ dvK ii [a0, a1, a2, a3, a4, a5, a6] a2 a1 c s) [a0, a2 + a1 - 1 - (a2 + (s : Int)), a2 + (s : Int), a3, a4, a5, a6] c _ ho1 hpm2.out Hadd.out (by omega) (by omega)).mono ?_
              rintro e w2 ⟨rfl, D3, ho3, hp3, hg3⟩
              have hrg3 := hr1.kept hg3 (by intro h; injection h with h; omega) (by intro h; injection h with h; omega)
              have hq3 := (hg3.block E (by rw [size_setCell, size_setCell]; exact hEy) (by intro h; injection h with h; omega)).trans hq1
              have Hp3 := Lib.hid hp3
              have Hb3 := Lib.hid (hb1.out.grown hg3 (by rw [size_setCell, size_setCell]; omega) (fun j hj => by cases hj; exact Nat.le_refl _))
              clear hp3 hg3 hq1 ho1 hr1
              go_wp2_with fail
              go_roundg (len - (s + 1))
              case measure => omega
              case rel =>
                refine ⟨s + 1, _, _, D3, by omega, rfl, by go_num, hrg3, ho3, ?_, hq3, Hb3⟩
                rw [dvK_succ, hkeyL, ← List.append_assoc]
                exact Hp3
            · have hst2 : ¬ a2 + (s : Int) < a1 := by omega
              obtain rfl : s = len := by omega
              go_wp2_with fail
              have Hg2 := Lib.hid hga.out
              go_roundg cnt1
              case measure => exact hlt
              case rel =>
                refine ⟨_, D2, _, N + s, hrg, by omega, has_sub hleft, hout, hpm2, Lib.hid (hga.out.step HF2.out.tidy HK.out (by omega) hlx Hat.out fun g => ?_), hbel⟩
                rw [Ev_append]
                refine (Cg.refl _).add ?_
                have hE' : dvE ii [a0, a1, a2, a3, a4, a5, a6] = dvK ii [a0, a1, a2, a3, a4, a5, a6] a2 a1 1 s := by
                  rw [show s = (a1 - a2).toNat by omega, hiii]
                  exact dvE_ge (i := 1) (by show ¬ a1 < a2; omega)
                rw [hE']
                exact Ev_dvK _ _ _ _ _ _ _ (Cg.of _ _ (by omega)) g s
      · subst h0
        go_wp2_with fail
        rw [← hE]
        have hrgU : RanP (w1.alloc (.cells #[.int .i64 a0, .int .i64 a1, .int .i64 a2, .int .i64 a3, .int .i64 a4, .int .i64 a5, .int .i64 a6] 75)) bf (B + 1) nf Df (fun z => left z && !z.sameKey (kl [a0, a1, a2, a3, a4, a5, a6])) cnt1 := hrg1.alloc _
        have houtU : OwnMp (w1.alloc (.cells #[.int .i64 a0, .int .i64 a1, .int .i64 a2, .int .i64 a3, .int .i64 a4, .int .i64 a5, .int .i64 a6] 75)) B N Dout := hout1.alloc _
        have hqU : (w1.alloc (.cells #[.int .i64 a0, .int .i64 a1, .int .i64 a2, .int .i64 a3, .int .i64 a4, .int .i64 a5, .int .i64 a6] 75)).heap[E]? = some (.cells #[.int .i64 a0, .int .i64 a1, .int .i64 a2, .int .i64 a3, .int .i64 a4, .int .i64 a5, .int .i64 a6] 75 (0, 0)) := hq0
        have HbelU := Lib.hid (Hbel1.out.alloc (by omega) (.cells #[.int .i64 a0, .int .i64 a1, .int .i64 a2, .int .i64 a3, .int .i64 a4, .int .i64 a5, .int .i64 a6] 75))
        obtain ⟨U, hU⟩ : ∃ U, U = w1.alloc (.cells #[.int .i64 a0, .int .i64 a1, .int .i64 a2, .int .i64 a3, .int .i64 a4, .int .i64 a5, .int .i64 a6] 75) := ⟨_, rfl⟩
        rw [← hU] at hrgU houtU hqU HbelU f0 f1 f2 f3 f4 f5 f6 ⊢
        clear hU hrg1 hout1 hq0 Hbel1 hE hE1
        go_region
        have hrgU : RanP U.drew bf (B + 1) nf Df (fun z => left z && !z.sameKey (kl [a0, a1, a2, a3, a4, a5, a6])) cnt1 := hrgU
        have houtU : OwnMp U.drew B N Dout := houtU
        have hqU : U.drew.heap[E]? = some (.cells #[.int .i64 a0, .int .i64 a1, .int .i64 a2, .int .i64 a3, .int .i64 a4, .int .i64 a5, .int .i64 a6] 75 (0, 0)) := hqU
        have HbelU := Lib.hid (Below.drewN HbelU.out 1)
        by_cases hxy : a2 < a3
        · go_wp2_with fail
          obtain ⟨len, hlen⟩ : ∃ len : Nat, len = (a3 - a2).toNat := ⟨_, rfl⟩
          have hlen1 : len ≤ d := by omega
          have hlen2 : a2 + (len : Int) = a3 := by omega
          clear hlen
          go_loopg [10] len (fun g s10 wr => ∃ (s : Nat) (p q : Int) (D2 : DU), s ≤ len ∧ g = len - s ∧ s10 = .int .i64 (a2 + (s : Int)) ∧ RanP wr bf (B + 1) nf Df (fun z => left z && !z.sameKey (kl [a0, a1, a2, a3, a4, a5, a6])) cnt1 ∧
              OwnMp wr B (N + s) D2 ∧ Hid (PolM d D2 (A ++ dvK ii [a0, a1, a2, a3, a4, a5, a6] a2 a3 (wrap64 (-c)) s)) ∧ wr.heap[E]? = some (.cells #[.int .i64 a0, .int .i64 a1, .int .i64 p, .int .i64 q, .int .i64 a4, .int .i64 a5, .int .i64 a6] 75 (0, 0)) ∧ Hid (Below B w wr))
          case atStart => exact ⟨0, a2, a3, Dout, Nat.zero_le _, by omega, by simp, hrgU, houtU, by simpa [dvK] using hpm, hqU, HbelU⟩
          case round =>
            obtain ⟨s, p, q, D2, hs, rfl, rfl, hrg, hout, hpm2, hq, hbel⟩ := hrel
            obtain ⟨wy, rfl⟩ : ∃ x : World, x = wr := ⟨_, rfl⟩
            have hEy := (Array.getElem?_eq_some_iff.1 hq).1
            by_cases hst : s < len
            · have hst2 : a2 + (s : Int) < a3 := by omega
              obtain ⟨f0, f1, f2, f3, f4, f5, f6, ff, _⟩ := blk7 hq
              have fr0 := ff 2
              have fr1 := ff 3
              have hadd := HK.out.dv (i := ii) (t := a2 + (s : Int)) (s := a2 + a3) (by omega) (by omega)
              have hkeyL : dvS ii [a0, a1, a2, a3, a4, a5, a6] (a2 + a3) (a2 + (s : Int)) = [a0, a1, a2 + a3 - 1 - (a2 + (s : Int)), a2 + (s : Int), a4, a5, a6] := by rw [hiii]; rfl
              rw [hkeyL] at hadd
              have Hadd := Lib.hid hadd
              have ho1 := (hout.kept (gb_setCell wy E 3 (.int .i64 (a2 + (s : Int)))) (by intro h; injection h with h; omega)).kept (gb_setCell _ E 2 (.int .i64 (a2 + a3 - 1 - (a2 + (s : Int))))) (by intro h; injection h with h; omega)
              have hr1 := (hrg.kept (gb_setCell wy E 3 (.int .i64 (a2 + (s : Int)))) (by intro h; injection h with h; omega) (by intro h; injection h with h; omega)).kept (gb_setCell _ E 2 (.int .i64 (a2 + a3 - 1 - (a2 + (s : Int))))) (by intro h; injection h with h; omega) (by intro h; injection h with h; omega)
              have hq1 := heap_setCell_at (heap_setCell_at hq 3 (.int .i64 (a2 + (s : Int)))) 2 (.int .i64 (a2 + a3 - 1 - (a2 + (s : Int))))
              have hb1 := Lib.hid ((hbel.out.setCell (p := ⟨E, 3, none⟩) (by show B ≤ E; omega) (.int .i64 (a2 + (s : Int)))).setCell (p := ⟨E, 2, none⟩) (by show B ≤ E; omega) (.int .i64 (a2 + a3 - 1 - (a2 + (s : Int)))))
              have hByl := hout.lt
              clear hadd
              go_wp2_with fail
              refine (add_any B (N + s) d D2 (A ++ dvK ii [a0, a1, a2, a3, a4, a5, a6] a2 a3 (wrap64 (-c)) s) [a0, a1, a2 + a3 - 1 - (a2 + (s : Int)), a2 + (s : Int), a4, a5, a6] (wrap64 (-c)) _ ho1 hpm2.out Hadd.out (by omega) (by omega)).mono ?_
              rintro e w2 ⟨rfl, D3, ho3, hp3, hg3⟩
              have hrg3 := hr1.kept hg3 (by intro h; injection h with h; omega) (by intro h; injection h with h; omega)
              have hq3 := (hg3.block E (by rw [size_setCell, size_setCell]; exact hEy) (by intro h; injection h with h; omega)).trans hq1
              have Hp3 := Lib.hid hp3
              have Hb3 := Lib.hid (hb1.out.grown hg3 (by rw [size_setCell, size_setCell]; omega) (fun j hj => by cases hj; exact Nat.le_refl _))
              clear hp3 hg3 hq1 ho1 hr1
              go_wp2_with fail
              go_roundg (len - (s + 1))
              case measure => omega
              case rel =>
                refine ⟨s + 1, _, _, D3, by omega, rfl, by go_num, hrg3, ho3, ?_, hq3, Hb3⟩
                rw [dvK_succ, hkeyL, ← List.append_assoc]
                exact Hp3
            · have hst2 : ¬ a2 + (s : Int) < a3 := by omega
              obtain rfl : s = len := by omega
              go_wp2_with fail
              have Hg2 := Lib.hid hga.out
              go_roundg cnt1
              case measure => exact hlt
              case rel =>
                refine ⟨_, D2, _, N + s, hrg, by omega, has_sub hleft, hout, hpm2, Lib.hid (hga.out.step HF2.out.tidy HK.out (by omega) hlx Hat.out fun g => ?_), hbel⟩
                rw [Ev_append]
                refine (Cg.refl _).add ?_
                have hE' : dvE ii [a0, a1, a2, a3, a4, a5, a6] = dvK ii [a0, a1, a2, a3, a4, a5, a6] a2 a3 (-1) s := by
                  rw [show s = (a3 - a2).toNat by omega, hiii]
                  exact dvE_le (i := 2) (by show a2 < a3; omega)
                rw [hE']
                exact Ev_dvK _ _ _ _ _ _ _ ((cg_wrap _).trans (Cg.of _ _ (by omega))) g s
        · go_wp2_with fail
          obtain ⟨len, hlen⟩ : ∃ len : Nat, len = (a2 - a3).toNat := ⟨_, rfl⟩
          have hlen1 : len ≤ d := by omega
          have hlen2 : a3 + (len : Int) = a2 := by omega
          clear hlen
          go_loopg [10] len (fun g s10 wr => ∃ (s : Nat) (p q : Int) (D2 : DU), s ≤ len ∧ g = len - s ∧ s10 = .int .i64 (a3 + (s : Int)) ∧ RanP wr bf (B + 1) nf Df (fun z => left z && !z.sameKey (kl [a0, a1, a2, a3, a4, a5, a6])) cnt1 ∧
              OwnMp wr B (N + s) D2 ∧ Hid (PolM d D2 (A ++ dvK ii [a0, a1, a2, a3, a4, a5, a6] a3 a2 c s)) ∧ wr.heap[E]? = some (.cells #[.int .i64 a0, .int .i64 a1, .int .i64 p, .int .i64 q, .int .i64 a4, .int .i64 a5, .int .i64 a6] 75 (0, 0)) ∧ Hid (Below B w wr))
          case atStart => exact ⟨0, a2, a3, Dout, Nat.zero_le _, by omega, by simp, hrgU, houtU, by simpa [dvK] using hpm, hqU, HbelU⟩
          case round =>
            obtain ⟨s, p, q, D2, hs, rfl, rfl, hrg, hout, hpm2, hq, hbel⟩ := hrel
            obtain ⟨wy, rfl⟩ : ∃ x : World, x = wr := ⟨_, rfl⟩
            have hEy := (Array.getElem?_eq_some_iff.1 hq).1
            by_cases hst : s < len
            · have hst2 : a3 + (s : Int) < a2 := by omega
              obtain ⟨f0, f1, f2, f3, f4, f5, f6, ff, _⟩ := blk7 hq
              have fr0 := ff 2
              have fr1 := ff 3
              have hadd := HK.out.dv (i := ii) (t := a3 + (s : Int)) (s := a3 + a2) (by omega) (by omega)
              have hkeyL : dvS ii [a0, a1, a2, a3, a4, a5, a6] (a3 + a2) (a3 + (s : Int)) = [a0, a1, a3 + a2 - 1 - (a3 + (s : Int)), a3 + (s : Int), a4, a5, a6] := by rw [hiii]; rfl
              rw [hkeyL] at hadd
              have Hadd := Lib.hid hadd
              have ho1 := (hout.kept (gb_setCell wy E 3 (.int .i64 (a3 + (s : Int)))) (by intro h; injection h with h; omega)).kept (gb_setCell _ E 2 (.int .i64 (a3 + a2 - 1 - (a3 + (s : Int))))) (by intro h; injection h with h; omega)
              have hr1 := (hrg.kept (gb_setCell wy E 3 (.int .i64 (a3 + (s : Int)))) (by intro h; injection h with h; omega) (by intro h; injection h with h; omega)).kept (gb_setCell _ E 2 (.int .i64 (a3 + a2 - 1 - (a3 + (s : Int))))) (by intro h; injection h with h; omega) (by intro h; injection h with h; omega)
              have hq1 := heap_setCell_at (heap_setCell_at hq 3 (.int .i64 (a3 + (s : Int)))) 2 (.int .i64 (a3 + a2 - 1 - (a3 + (s : Int))))
              have hb1 := Lib.hid ((hbel.out.setCell (p := ⟨E, 3, none⟩) (by show B ≤ E; omega) (.int .i64 (a3 + (s : Int)))).setCell (p := ⟨E, 2, none⟩) (by show B ≤ E; omega) (.int .i64 (a3 + a2 - 1 - (a3 + (s : Int)))))
              have hByl := hout.lt
              clear hadd
              go_wp2_with fail
              refine (add_any B (N + s) d D2 (A ++ dvK ii [a0, a1, a2, a3, a4, a5, a6] a3 a2 c s) [a0, a1, a3 + a2 - 1 - (a3 + (s : Int)), a3 + (s : Int), a4, a5, a6] c _ ho1 hpm2.out Hadd.out (by omega) (by omega)).mono ?_
              rintro e w2 ⟨rfl, D3, ho3, hp3, hg3⟩
              have hrg3 := hr1.kept hg3 (by intro h; injection h with h; omega) (by intro h; injection h with h; omega)
              have hq3 := (hg3.block E (by rw [size_setCell, size_setCell]; exact hEy) (by intro h; injection h with h; omega)).trans hq1
              have Hp3 := Lib.hid hp3
              have Hb3 := Lib.hid (hb1.out.grown hg3 (by rw [size_setCell, size_setCell]; omega) (fun j hj => by cases hj; exact Nat.le_refl _))
              clear hp3 hg3 hq1 ho1 hr1
              go_wp2_with fail
              go_roundg (len - (s + 1))
              case measure => omega
              case rel =>
                refine ⟨s + 1, _, _, D3, by omega, rfl, by go_num, hrg3, ho3, ?_, hq3, Hb3⟩
                rw [dvK_succ, hkeyL, ← List.append_assoc]
                exact Hp3
            · have hst2 : ¬ a3 + (s : Int) < a2 := by omega
              obtain rfl : s = len := by omega
              go_wp2_with fail
              have Hg2 := Lib.hid hga.out
              go_roundg cnt1
              case measure => exact hlt
              case rel =>
                refine ⟨_, D2, _, N + s, hrg, by omega, has_sub hleft, hout, hpm2, Lib.hid (hga.out.step HF2.out.tidy HK.out (by omega) hlx Hat.out fun g => ?_), hbel⟩
                rw [Ev_append]
                refine (Cg.refl _).add ?_
                have hE' : dvE ii [a0, a1, a2, a3, a4, a5, a6] = dvK ii [a0, a1, a2, a3, a4, a5, a6] a3 a2 1 s := by
                  rw [show s = (a2 - a3).toNat by omega, hiii]
                  exact dvE_ge (i := 2) (by show ¬ a2 < a3; omega)
                rw [hE']
                exact Ev_dvK _ _ _ _ _ _ _ (Cg.of _ _ (by omega)) g s
      · subst h0
        go_wp2_with fail
        rw [← hE]
        have hrgU : RanP (w1.alloc (.cells #[.int .i64 a0, .int .i64 a1, .int .i64 a2, .int .i64 a3, .int .i64 a4, .int .i64 a5, .int .i64 a6] 75)) bf (B + 1) nf Df (fun z => left z && !z.sameKey (kl [a0, a1, a2, a3, a4, a5, a6])) cnt1 := hrg1.alloc _
        have houtU : OwnMp (w1.alloc (.cells #[.int .i64 a0, .int .i64 a1, .int .i64 a2, .int .i64 a3, .int .i64 a4, .int .i64 a5, .int .i64 a6] 75)) B N Dout := hout1.alloc _
        have hqU : (w1.alloc (.cells #[.int .i64 a0, .int .i64 a1, .int .i64 a2, .int .i64 a3, .int .i64 a4, .int .i64 a5, .int .i64 a6] 75)).heap[E]? = some (.cells #[.int .i64 a0, .int .i64 a1, .int .i64 a2, .int .i64 a3, .int .i64 a4, .int .i64 a5, .int .i64 a6] 75 (0, 0)) := hq0
        have HbelU := Lib.hid (Hbel1.out.alloc (by omega) (.cells #[.int .i64 a0, .int .i64 a1, .int .i64 a2, .int .i64 a3, .int .i64 a4, .int .i64 a5, .int .i64 a6] 75))
        obtain ⟨U, hU⟩ : ∃ U, U = w1.alloc (.cells #[.int .i64 a0, .int .i64 a1, .int .i64 a2, .int .i64 a3, .int .i64 a4, .int .i64 a5, .int .i64 a6] 75) := ⟨_, rfl⟩
        rw [← hU] at hrgU houtU hqU HbelU f0 f1 f2 f3 f4 f5 f6 ⊢
        clear hU hrg1 hout1 hq0 Hbel1 hE hE1
        go_region
        have hrgU : RanP U.drew bf (B + 1) nf Df (fun z => left z && !z.sameKey (kl [a0, a1, a2, a3, a4, a5, a6])) cnt1 := hrgU
        have houtU : OwnMp U.drew B N Dout := houtU
        have hqU : U.drew.heap[E]? = some (.cells #[.int .i64 a0, .int .i64 a1, .int .i64 a2, .int .i64 a3, .int .i64 a4, .int .i64 a5, .int .i64 a6] 75 (0, 0)) := hqU
        have HbelU := Lib.hid (Below.drewN HbelU.out 1)
        by_cases hxy : a3 < a4
        · go_wp2_with fail
          obtain ⟨len, hlen⟩ : ∃ len : Nat, len = (a4 - a3).toNat := ⟨_, rfl⟩
          have hlen1 : len ≤ d := by omega
          have hlen2 : a3 + (len : Int) = a4 := by omega
          clear hlen
          go_loopg [10] len (fun g s10 wr => ∃ (s : Nat) (p q : Int) (D2 : DU), s ≤ len ∧ g = len - s ∧ s10 = .int .i64 (a3 + (s : Int)) ∧ RanP wr bf (B + 1) nf Df (fun z => left z && !z.sameKey (kl [a0, a1, a2, a3, a4, a5, a6])) cnt1 ∧
              OwnMp wr B (N + s) D2 ∧ Hid (PolM d D2 (A ++ dvK ii [a0, a1, a2, a3, a4, a5, a6] a3 a4 (wrap64 (-c)) s)) ∧ wr.heap[E]? = some (.cells #[.int .i64 a0, .int .i64 a1, .int .i64 a2, .int .i64 p, .int .i64 q, .int .i64 a5, .int .i64 a6] 75 (0, 0)) ∧ Hid (Below B w wr))
          case atStart => exact ⟨0, a3, a4, Dout, Nat.zero_le _, by omega, by simp, hrgU, houtU, by simpa [dvK] using hpm, hqU, HbelU⟩
          case round =>
            obtain ⟨s, p, q, D2, hs, rfl, rfl, hrg, hout, hpm2, hq, hbel⟩ := hrel
            obtain ⟨wy, rfl⟩ : ∃ x : World, x = wr := ⟨_, rfl⟩
            have hEy := (Array.getElem?_eq_some_iff.1 hq).1
            by_cases hst : s < len
            · have hst2 : a3 + (s : Int) < a4 := by omega
              obtain ⟨f0, f1, f2, f3, f4, f5, f6, ff, _⟩ := blk7 hq
              have fr0 := ff 3
              have fr1 := ff 4
              have hadd := HK.out.dv (i := ii) (t := a3 + (s : Int)) (s := a3 + a4) (by omega) (by omega)
              have hkeyL : dvS ii [a0, a1, a2, a3, a4, a5, a6] (a3 + a4) (a3 + (s : Int)) = [a0, a1, a2, a3 + a4 - 1 - (a3 + (s : Int)), a3 + (s : Int), a5, a6] := by rw [hiii]; rfl
              rw [hkeyL] at hadd
              have Hadd := Lib.hid hadd
              have ho1 := (hout.kept (gb_setCell wy E 4 (.int .i64 (a3 + (s : Int)))) (by intro h; injection h with h; omega)).kept (gb_setCell _ E 3 (.int .i64 (a3 + a4 - 1 - (a3 + (s : Int))))) (by intro h; injection h with h; omega)
              have hr1 := (hrg.kept (gb_setCell wy E 4 (.int .i64 (a3 + (s : Int)))) (by intro h; injection h with h; omega) (by intro h; injection h with h; omega)).kept (gb_setCell _ E 3 (.int .i64 (a3 + a4 - 1 - (a3 + (s : Int))))) (by intro h; injection h with h; omega) (by intro h; injection h with h; omega)
              have hq1 := heap_setCell_at (heap_setCell_at hq 4 (.int .i64 (a3 + (s : Int)))) 3 (.int .i64 (a3 + a4 - 1 - (a3 + (s : Int))))
              have hb1 := Lib.hid ((hbel.out.setCell (p := ⟨E, 4, none⟩) (by show B ≤ E; omega) (.int .i64 (a3 + (s : Int)))).setCell (p := ⟨E, 3, none⟩) (by show B ≤ E; omega) (.int .i64 (a3 + a4 - 1 - (a3 + (s : Int)))))
              have hByl := hout.lt
              clear hadd
              go_wp2_with fail
              refine (add_any B (N + s) d D2 (A ++ dvK ii [a0, a1, a2, a3, a4, a5, a6] a3 a4 (wrap64 (-c)) s) [a0, a1, a2, a3 + a4 - 1 - (a3 + (s : Int)), a3 + (s : Int), a5, a6] (wrap64 (-c)) _ ho1 hpm2.out Hadd.out (by omega) (by omega)).mono ?_
              rintro e w2 ⟨rfl, D3, ho3, hp3, hg3⟩
              have hrg3 := hr1.kept hg3 (by intro h; injection h with h; omega) (by intro h; injection h with h; omega)
              have hq3 := (hg3.block E (by rw [size_setCell, size_setCell]; exact hEy) (by intro h; injection h with h; omega)).trans hq1
              have Hp3 := Lib.hid hp3
              have Hb3 := Lib.hid (hb1.out.grown hg3 (by rw [size_setCell, size_setCell]; omega) (fun j hj => by cases hj; exact Nat.le_refl _))
              clear hp3 hg3 hq1 ho1 hr1
              go_wp2_with fail
              go_roundg (len - (s + 1))
              case measure => omega
              case rel =>
                refine ⟨s + 1, _, _, D3, by omega, rfl, by go_num, hrg3, ho3, ?_, hq3, Hb3⟩
                rw [dvK_succ, hkeyL, ← List.append_assoc]
                exact Hp3
            · have hst2 : ¬ a3 + (s : Int) < a4 := by omega
              obtain rfl : s = len := by omega
              go_wp2_with fail
              have Hg2 := Lib.hid hga.out
              go_roundg cnt1
              case measure => exact hlt
              case rel =>
                refine ⟨_, D2, _, N + s, hrg, by omega, has_sub hleft, hout, hpm2, Lib.hid (hga.out.step HF2.out.tidy HK.out (by omega) hlx Hat.out fun g => ?_), hbel⟩
                rw [Ev_append]
                refine (Cg.refl _).add ?_
                have hE' : dvE ii [a0, a1, a2, a3, a4, a5, a6] = dvK ii [a0, a1, a2, a3, a4, a5, a6] a3 a4 (-1) s := by
                  rw [show s = (a4 - a3).toNat by omega, hiii]
                  exact dvE_le (i := 3) (by show a3 < a4; omega)
                rw [hE']
                exact Ev_dvK _ _ _ _ _ _ _ ((cg_wrap _).trans (Cg.of _ _ (by omega))) g s
        · go_wp2_with fail
          obtain ⟨len, hlen⟩ : ∃ len : Nat, len = (a3 - a4).toNat := ⟨_, rfl⟩
          have hlen1 : len ≤ d := by omega
          have hlen2 : a4 + (len : Int) = a3 := by omega
          clear hlen
          go_loopg [10] len (fun g s10 wr => ∃ (s : Nat) (p q : Int) (D2 : DU), s ≤ len ∧ g = len - s ∧ s10 = .int .i64 (a4 + (s : Int)) ∧ RanP wr bf (B + 1) nf Df (fun z => left z && !z.sameKey (kl [a0, a1, a2, a3, a4, a5, a6])) cnt1 ∧
              OwnMp wr B (N + s) D2 ∧ Hid (PolM d D2 (A ++ dvK ii [a0, a1, a2, a3, a4, a5, a6] a4 a3 c s)) ∧ wr.heap[E]? = some (.cells #[.int .i64 a0, .int .i64 a1, .int .i64 a2, .int .i64 p, .int .i64 q, .int .i64 a5, .int .i64 a6] 75 (0, 0)) ∧ Hid (Below B w wr))
          case atStart => exact ⟨0, a3, a4, Dout, Nat.zero_le _, by omega, by simp, hrgU, houtU, by simpa [dvK] using hpm, hqU, HbelU⟩
          case round =>
            obtain ⟨s, p, q, D2, hs, rfl, rfl, hrg, hout, hpm2, hq, hbel⟩ := hrel
            obtain ⟨wy, rfl⟩ : ∃ x : World, x = wr := ⟨_, rfl⟩
            have hEy := (Array.getElem?_eq_some_iff.1 hq).1
            by_cases hst : s < len
            · have hst2 : a4 + (s : Int) < a3 := by omega
              obtain ⟨f0, f1, f2, f3, f4, f5, f6, ff, _⟩ := blk7 hq
              have fr0 := ff 3
              have fr1 := ff 4
              have hadd := HK.out.dv (i := ii) (t := a4 + (s : Int)) (s := a4 + a3) (by omega) (by omega)
              have hkeyL : dvS ii [a0, a1, a2, a3, a4, a5, a6] (a4 + a3) (a4 + (s : Int)) = [a0, a1, a2, a4 + a3 - 1 - (a4 + (s : Int)), a4 + (s : Int), a5, a6] := by rw [hiii]; rfl
              rw [hkeyL] at hadd
              have Hadd := Lib.hid hadd
              have ho1 := (hout.kept (gb_setCell wy E 4 (.int .i64 (a4 + (s : Int)))) (by intro h; injection h with h; omega)).kept (gb_setCell _ E 3 (.int .i64 (a4 + a3 - 1 - (a4 + (s : Int))))) (by intro h; injection h with h; omega)
              have hr1 := (hrg.kept (gb_setCell wy E 4 (.int .i64 (a4 + (s : Int)))) (by intro h; injection h with h; omega) (by intro h; injection h with h; omega)).kept (gb_setCell _ E 3 (.int .i64 (a4 + a3 - 1 - (a4 + (s : Int))))) (by intro h; injection h with h; omega) (by intro h; injection h with h; omega)
              have hq1 := heap_setCell_at (heap_setCell_at hq 4 (.int .i64 (a4 + (s : Int)))) 3 (.int .i64 (a4 + a3 - 1 - (a4 + (s : Int))))
              have hb1 := Lib.hid ((hbel.out.setCell (p := ⟨E, 4, none⟩) (by show B ≤ E; omega) (.int .i64 (a4 + (s : Int)))).setCell (p := ⟨E, 3, none⟩) (by show B ≤ E; omega) (.int .i64 (a4 + a3 - 1 - (a4 + (s : Int)))))
              have hByl := hout.lt
              clear hadd
              go_wp2_with fail
              refine (add_any B (N + s) d D2 (A ++ dvK ii [a0, a1, a2, a3, a4, a5, a6] a4 a3 c s) [a0, a1, a2, a4 + a3 - 1 - (a4 + (s : Int)), a4 + (s : Int), a5, a6] c _ ho1 hpm2.out Hadd.out (by omega) (by omega)).mono ?_
              rintro e w2 ⟨rfl, D3, ho3, hp3, hg3⟩
              have hrg3 := hr1.kept hg3 (by intro h; injection h with h; omega) (by intro h; injection h with h; omega)
              have hq3 := (hg3.block E (by rw [size_setCell, size_setCell]; exact hEy) (by intro h; injection h with h; omega)).trans hq1
              have Hp3 := Lib.hid hp3
              have Hb3 := Lib.hid (hb1.out.grown hg3 (by rw [size_setCell, size_setCell]; omega) (fun j hj => by cases hj; exact Nat.le_refl _))
              clear hp3 hg3 hq1 ho1 hr1
              go_wp2_with fail
              go_roundg (len - (s + 1))
              case measure => omega
              case rel =>
                refine ⟨s + 1, _, _, D3, by omega, rfl, by go_num, hrg3, ho3, ?_, hq3, Hb3⟩
                rw [dvK_succ, hkeyL, ← List.append_assoc]
                exact Hp3
            · have hst2 : ¬ a4 + (s : Int) < a3 := by omega
              obtain rfl : s = len := by omega
              go_wp2_with fail
              have Hg2 := Lib.hid hga.out
              go_roundg cnt1
              case measure => exact hlt
              case rel =>
                refine ⟨_, D2, _, N + s, hrg, by omega, has_sub hleft, hout, hpm2, Lib.hid (hga.out.step HF2.out.tidy HK.out (by omega) hlx Hat.out fun g => ?_), hbel⟩
                rw [Ev_append]
                refine (Cg.refl _).add ?_
                have hE' : dvE ii [a0, a1, a2, a3, a4, a5, a6] = dvK ii [a0, a1, a2, a3, a4, a5, a6] a4 a3 1 s := by
                  rw [show s = (a3 - a4).toNat by omega, hiii]
                  exact dvE_ge (i := 3) (by show ¬ a3 < a4; omega)
                rw [hE']
                exact Ev_dvK _ _ _ _ _ _ _ (Cg.of _ _ (by omega)) g s

end Go.Proofs.YtgebjjpcgakjgaaGreat
