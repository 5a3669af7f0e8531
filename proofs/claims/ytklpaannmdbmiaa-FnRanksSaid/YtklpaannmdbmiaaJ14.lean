/-
  The draws: two permutations, the one often below the other.
  A matrix made of an old one's numbers, copied by append onto a new slice, in a region that draws its order: T{.., Data: append([]int{}, a.Data...)}.
  The laws' own comparisons: ints, matrices; how long the code is.
  The identity, as the program makes it; one byte of the code.
  The law FnRanks, walked. (Printed by gen_fnranks.py.)
-/
import Derived.Test.YtklpaannmdbmiaaJ13
import Derived.Test.YtklpaannmdbmiaaJ4
import Derived.Test.YtklpaannmdbmiaaJ3
import Derived.Test.YtklpaannmdbmiaaJ1
import Derived.Test.YtklpaannmdbmiaaJ10
import Derived.Test.YtklpaannmdbmiaaJ12
namespace Go.Proofs.Ytklpaannmdbmiaa
set_option linter.all false
open Go.RowKit

set_option maxRecDepth 100000 in
set_option maxHeartbeats 8000000 in
theorem DrawTwoPerms_any (v : Value) (l : Nat) (w : World) (h : Byts w v l) :
    Calls Try.prog 10 #[v] w fun e w' =>
      ∃ (u1 u2 : Value) (xs zs : List Int) (n : Nat), e = .returned (.tuple #[u1, u2]) ∧ Ints w' u1 xs ∧ Ints w' u2 zs ∧ P5 n xs ∧ P5 n zs ∧ 1 ≤ n ∧ Below w.heap.size w w' := by
  have Hh := Lib.hid h
  obtain ⟨_, _, cap, rfl, _⟩ := h
  go_enter Try.func10, Try.ntmps10
  go_wp2_with fail
  refine (l1New_any _ l _ Hh.out).mono ?_
  rintro e w2 ⟨rfl, hc2, hb2⟩
  have HC2 := Lib.hid hc2
  have HB2 := Lib.hid hb2
  have hk2 := hc2.lt
  clear hc2 hb2
  go_wp2_with fail
  refine (l1Below_any w.heap.size 5 _ HC2.out (by omega) (by omega)).mono ?_
  rintro e w3 ⟨m, rfl, hm, hc3, hf3⟩
  have HC3 := Lib.hid hc3
  have HB3 := Lib.hid (HB2.out.trans (hf3.below (Nat.le_refl _) (by omega)))
  have hs3 := hf3.size
  clear hc3 hf3
  have hmm : 1 + (m : Int) = ((m + 1 : Nat) : Int) := by omega
  obtain ⟨n, hn⟩ : ∃ n, n = m + 1 := ⟨_, rfl⟩
  rw [← hn] at hmm
  have Hmm := Lib.hid hmm
  have hn1 : 1 ≤ n := by omega
  have hn5 : n ≤ 5 := by omega
  clear hn hmm
  go_wp2_with fail
  rw [Hmm.out]
  refine (dPerm_any w.heap.size n _ HC3.out hn1 hn5).mono ?_
  rintro e w4 ⟨u1, xs, rfl, ho4, hp4, hl4, hc4, hf4⟩
  have HO4 := Lib.hid ho4
  have HP4 := Lib.hid (show P5 n xs from ⟨hp4, hl4, hn5⟩)
  have HC4 := Lib.hid hc4
  have HB4 := Lib.hid (HB3.out.trans (hf4.below (Nat.le_refl _) (by omega)))
  have hs4 := hf4.size
  obtain ⟨p4, k4, rfl, hk4, _⟩ := ho4.shape
  rw [hl4] at HO4 hk4 ⊢
  clear ho4 hp4 hl4 hc4 hf4
  go_wp2_with fail
  refine (l1Once_any w.heap.size 3 _ HC4.out (by omega) (by omega)).mono ?_
  rintro e w5 ⟨b, rfl, hc5, hf5⟩
  have HC5 := Lib.hid hc5
  have HB5 := Lib.hid (HB4.out.trans (hf5.below (Nat.le_refl _) (by omega)))
  have HO5 := Lib.hid (HO4.out.frm hf5 (Or.inr (by omega)))
  have hs5 := hf5.size
  clear hc5 hf5
  cases b with
  | false =>
    go_wp2_with fail
    refine (dPerm_any w.heap.size n _ HC5.out hn1 hn5).mono ?_
    rintro e w6 ⟨u6, zs, rfl, ho6, hp6, hl6, hc6, hf6⟩
    have HO6 := Lib.hid ho6.ints
    have HP6 := Lib.hid (show P5 n zs from ⟨hp6, hl6, hn5⟩)
    have HB6 := Lib.hid (HB5.out.trans (hf6.below (Nat.le_refl _) (by omega)))
    have HX6 := Lib.hid (HO5.out.frm hf6 (Or.inr (by omega))).ints
    clear ho6 hp6 hl6 hc6 hf6
    go_wp2_with fail
    go_ret2
    exact ⟨_, _, xs, zs, n, rfl, HX6.out, HO6.out, HP4.out, HP6.out, hn1, HB6.out⟩
  | true =>
    go_wp2_with fail
    refine (dReduced_any w.heap.size n _ xs _ HC5.out (HO5.out.mono (by omega) (by omega)) HP4.out hn1).mono ?_
    rintro e w6 ⟨u6, ls, rfl, ho6, hl6, hl10, hc6, hf6⟩
    have HL := Lib.hid hl6
    have HO6 := Lib.hid ho6
    have HC6 := Lib.hid hc6
    have HB6 := Lib.hid (HB5.out.trans (hf6.below (Nat.le_refl _) (by omega)))
    have HX6 := Lib.hid (HO5.out.frm hf6 (Or.inr (by omega)))
    have hs6 := hf6.size
    obtain ⟨p6, k6, rfl, hk6, hk66⟩ := ho6.shape
    unfold maxLen at hk66
    clear ho6 hl6 hc6 hf6
    go_wp2_with fail
    go_loopg [8, 9] ls.length (fun g s8 s9 wr => ∃ (i : Nat) (ps : List Int), i ≤ ls.length ∧ g = ls.length - i ∧ s9 = .int .i64 (i : Int) ∧ Hid (ps.length ≤ i) ∧ Hid (LetOk n ps) ∧ Hid (OwnI 3 wr w6.heap.size wr.heap.size s8 ps) ∧ Hid (Cur wr w.heap.size) ∧ Hid (Frm w.heap.size (w.heap.size + 1) w6 wr))
    case atStart =>
      refine ⟨0, [], Nat.zero_le _, rfl, rfl, Lib.hid (Nat.le_refl _), Lib.hid (LetOk.nil n), Lib.hid ?_, Lib.hid (HC6.out.below (below_alloc w6 _)), Lib.hid (Frm.of_below (below_alloc w6 _) _ _)⟩
      exact OwnF.ints ((OwnF.made0 w6 3 (iv [])).mono (Nat.le_refl _) (by simp))
    case round =>
      obtain ⟨i, ps, hi, rfl, rfl, hpl, hpo, ho, hcu, hf⟩ := hrel
      obtain ⟨wx, rfl⟩ : ∃ x : World, x = wr := ⟨_, rfl⟩
      have hsx := hf.out.size
      obtain ⟨q, hq⟩ : ∃ q, q = ps.length := ⟨_, rfl⟩
      have Hq := Lib.hid hq
      obtain ⟨p8, k8, rfl, hk8, hk88⟩ := ho.out.shape
      have hofn := ho.out.fn
      have hpl' := hpl.out
      rw [← hq] at hk8 hofn hpl' ⊢
      have Ho := Lib.hid ho.out
      rw [← hq] at Ho
      have Hofn := Lib.hid hofn
      have Hpo := Lib.hid hpo.out
      have Hcu := Lib.hid hcu.out
      have Hf := Lib.hid hf.out
      clear hpl hpo ho hcu hf hq hofn
      by_cases hlt : i < ls.length
      · have hii : (i : Int) < (ls.length : Int) := by omega
        go_wp2_with fail
        refine (l1Once_any w.heap.size 3 _ Hcu.out (by omega) (by omega)).mono ?_
        rintro e w7 ⟨b, rfl, hc7, hf7⟩
        have HC7 := Lib.hid hc7
        have HO7 := Lib.hid (Hofn.out.frm hf7 (Or.inr (by omega)))
        have HI7 := Lib.hid (Ho.out.frm hf7 (Or.inr (by omega)))
        have HF7 := Lib.hid (Hf.out.trans hf7)
        have hs7 := hf7.size
        clear hc7 hf7
        cases b with
        | true =>
          go_wp2_with fail
          go_roundg (ls.length - (i + 1))
          case measure => omega
          case rel => exact ⟨i + 1, ps, by omega, rfl, by go_num, Lib.hid (by rw [← Hq.out]; omega), Hpo, Lib.hid (HI7.out.mono (Nat.le_refl _) hs7), HC7, HF7⟩
        | false =>
          obtain ⟨m, hm, hmn⟩ := HL.out i hlt
          have hls := (HO6.out.frm HF7.out (Or.inr (by omega))).fn
          obtain ⟨g6, rfl, _⟩ := hls.at_ (by omega)
          have c1 := hls.cell hlt
          unfold iv at c1
          rw [hm] at c1
          have hb1 : q + 1 ≤ maxLen := by unfold maxLen; omega
          have hb2 : (q + 1) * 8 ≤ 140737488355328 := by omega
          clear hls hm
          go_wp2_with (at_builtin; go_must (refine wpList_append_F rfl (.tmp 33) (.tmp 38) 24 rfl 3 (.int .i64 0) 8 Try.underlying24 info_int rfl w6.heap.size wx.heap.size _ q (iv ps) rfl (HO7.out.below (below_alloc w7 _)) (by rw [size_alloc]; omega) (by rw [size_alloc]; omega) _ 1 _ rfl (rd_one _ _ _ rfl) (fun j _ => rfl) hb1 hb2 ?_; intro v8 w8 ho8 hg8))
          have hbx : Below w6.heap.size w7 w8 := ((below_alloc w7 _).mono (by omega)).trans (grownBy_below hg8 HO7.out.blocks (Nat.le_refl _) (by rw [size_alloc]; omega))
          go_roundg (ls.length - (i + 1))
          case measure => omega
          case rel =>
            refine ⟨i + 1, ps ++ [(m : Int)], by omega, rfl, by go_num, Lib.hid (by rw [List.length_append, ← Hq.out, List.length_singleton]; omega), Lib.hid (Hpo.out.snoc hmn), Lib.hid ?_, Lib.hid (HC7.out.keepB hbx (by omega)), Lib.hid (HF7.out.thenB hbx (Nat.le_refl _))⟩
            exact OwnI.snoc1 (by rw [← Hq.out]; exact ho8)
      · have hii : ¬ (i : Int) < (ls.length : Int) := by omega
        go_wp2_with fail
        refine (l1Once_any w.heap.size 2 _ Hcu.out (by omega) (by omega)).mono ?_
        rintro e w7 ⟨b, rfl, hc7, hf7⟩
        have HI7 := Lib.hid (Ho.out.frm hf7 (Or.inr (by omega)))
        have HF7 := Lib.hid (Hf.out.trans hf7)
        have hs7 := hf7.size
        clear hc7 hf7
        go_wp2_with fail
        refine (l1Play_any n _ ps b _ (by have := HI7.out.ints; exact this) Hpo.out hn1 hn5).mono ?_
        rintro e w8 ⟨u8, zs, rfl, ho8, hp8, hb8⟩
        have HZ := Lib.hid ho8.ints
        have HP8 := Lib.hid hp8
        have HX8 := Lib.hid ((HX6.out.frm HF7.out (Or.inr (by omega))).below hb8).ints
        have HB8 := Lib.hid ((HB6.out.trans (HF7.out.below (Nat.le_refl _) (by omega))).trans (hb8.mono (by omega)))
        clear ho8 hp8 hb8
        go_wp2_with fail
        go_ret2
        exact ⟨_, _, zs, xs, n, rfl, HZ.out, HX8.out, HP8.out, HP4.out, hn1, HB8.out⟩

end Go.Proofs.Ytklpaannmdbmiaa

namespace Go.Proofs.Ytklpaannmdbmiaa
set_option linter.all false
open Go.RowKit

/-- a new empty slice in block g, numbers that can be read, nothing of w changed -/
structure AppIn (T : TypeId) (w W : World) (g : Nat) (v : Value) (xs : List Int) : Prop where
  own : OwnF W w.heap.size W.heap.size T (.slice (some ⟨g, 0, none⟩) 0 0) 0 (iv [])
  rd : Ints W v xs
  bl : Below w.heap.size w W
theorem AppIn.first {T : TypeId} {w : World} {v : Value} {xs : List Int} (h : Ints w v xs) : AppIn T w (w.alloc (.cells #[] T)).drew w.heap.size v xs := by
  have hb := (below_alloc w (.cells #[] T)).drew
  refine ⟨?_, h.below hb, hb⟩
  exact OwnF.mono (OwnF.below (OwnF.made0 w T (iv [])) (Below.refl _ _).drew) (Nat.le_refl _) (by show _ ≤ (w.alloc _).heap.size; rw [size_alloc]; exact Nat.le_refl _)
theorem AppIn.alloc {T : TypeId} {w W : World} {g : Nat} {v : Value} {xs : List Int} (h : AppIn T w W g v xs) (o : Obj) : AppIn T w (W.alloc o) g v xs :=
  ⟨(h.own.below (below_alloc W o)).mono (Nat.le_refl _) (by rw [size_alloc]; omega), h.rd.below (below_alloc W o), h.bl.trans ((below_alloc W o).mono h.bl.size)⟩
theorem AppIn.after {T : TypeId} {w : World} {v : Value} {xs : List Int} (h : Ints w v xs) (o : Obj) : AppIn T w ((w.alloc o).alloc (.cells #[] T)).drew (w.heap.size + 1) v xs := by
  have e := size_alloc w o
  have h1 := AppIn.first (T := T) (h.below (below_alloc w o))
  rw [e] at h1
  exact ⟨h1.own.mono (by rw [size_alloc]; omega) (Nat.le_refl _), h1.rd, (below_alloc w o).trans (h1.bl.mono (by rw [size_alloc]; omega))⟩
theorem step_append_A {P : Program} {w W : World} {ops : Array Oper} {o : Oper} {a : Act} {K : Act → World → Prop} {Q : Exit → Act → World → Prop} {E : Prop} (hgd : o.guard = none) (s x : Operand) (t : TypeId)
    (ho : o.op = .call { callee := .builtin .append, args := #[s, x], argTypes := #[t, t] })
    (e : TypeId) (ht : P.underlying t = some (.slice e)) (hinfo : (P.info? e).map (fun i => (i.zero, i.size, i.bytes)) = some (some (.int .i64 0), 1, 8))
    (g : Nat) (v : Value) (xs : List Int) (hp : AppIn e w W g v xs) (hs : a.eval s = .slice (some ⟨g, 0, none⟩) 0 0) (hxu : a.eval x = v) (hl : xs.length ≤ 1048576)
    (h : ∀ p k w', OwnI e w' w.heap.size w'.heap.size (.slice p xs.length k) xs → Below w.heap.size w w' → W.grownBy w' (some g) → K (a.put o.dst (.slice p xs.length k)) w') :
    if Region.wanted o (yielded ops a.tmps) = true then Oper.wp P o a W K Q else E := by
  refine step_append_F hgd s x t ho e (.int .i64 0) 8 ht hinfo rfl w.heap.size W.heap.size _ 0 (iv []) hs hp.own hp.bl.size (Nat.le_refl _) v xs.length (iv xs) hxu hp.rd (fun j _ => iv_one _ j) (by unfold maxLen; omega) (by omega) ?_
  intro v' w' ho' hg'
  have hown := own_join (xs := []) (ys := xs) ho'
  rw [List.nil_append] at hown
  have hbB := hp.bl.trans (grownBy_below2 hg' hp.own (Nat.le_refl _) hp.bl.size)
  obtain ⟨p, k, rfl, _, _⟩ := hown.shape
  exact h p k w' hown hbB hg'
theorem cutBox_set2 {T TM : TypeId} {wr w : World} {M : Mx} {p : Option Addr} {k lo hi q : Nat} {x0 x1 x2 x3 : Value} (hB : Below wr.heap.size wr w)
    (hz : w.heap[q]? = some (.cells #[x0, x1, x2, x3] TM)) (ho : OwnI T w lo hi (.slice p M.D.length k) M.D) (hlo : wr.heap.size ≤ lo) (hr : wr.heap.size ≤ q) (hT : T ≠ TM) :
    CutBox T TM wr ((((w.setCell ⟨q, 0, none⟩ (.int .i64 M.P)).setCell ⟨q, 1, none⟩ (.int .i64 M.R)).setCell ⟨q, 2, none⟩ (.int .i64 M.C)).setCell ⟨q, 3, none⟩ (.slice p M.D.length k)) M (.pointer (some ⟨q, 0, none⟩)) := by
  obtain ⟨⟨hl, hrow⟩, hh⟩ := ho
  have hw : q < ((((w.setCell ⟨q, 0, none⟩ (.int .i64 M.P)).setCell ⟨q, 1, none⟩ (.int .i64 M.R)).setCell ⟨q, 2, none⟩ (.int .i64 M.C)).setCell ⟨q, 3, none⟩ (.slice p M.D.length k)).heap.size := by have := blk_lt hz; simpa using this
  have hB2 := below_set4 hB hr (.int .i64 M.P) (.int .i64 M.R) (.int .i64 M.C) (.slice p M.D.length k)
  have hz2 := set4_all hz (.int .i64 M.P) (.int .i64 M.R) (.int .i64 M.C) (.slice p M.D.length k)
  rcases hrow with ⟨e, h0⟩ | ⟨g, cap, cur, e, hg, hgb, r⟩
  · have ho2 : OwnI T w (q + 1) (q + 1) (.slice p M.D.length k) M.D := ⟨⟨hl, .inl ⟨e, h0⟩⟩, fun b hb => by rw [e] at hb; simp [Value.ownBlock] at hb⟩
    exact ⟨_, _, _, q + 1, q + 1, rfl, hr, hz2, own_set4 ho2 (Or.inl (by omega)) _ _ _ _, Or.inl (by omega), by omega, by omega, hw, hB2⟩
  · have hgq : g ≠ q := fun e => by
      subst e
      rw [hz] at hgb
      injection hgb with hgb
      injection hgb with _ hgb
      exact hT hgb.symm
    have hgs := blk_lt hgb
    have ho2 : OwnI T w g (g + 1) (.slice p M.D.length k) M.D := ⟨⟨hl, .inr ⟨g, cap, cur, e, Nat.le_refl _, hgb, r⟩⟩, fun b hb => by rw [e] at hb; simp [Value.ownBlock] at hb; omega⟩
    have hd : q < g ∨ g + 1 ≤ q := by omega
    exact ⟨_, _, _, g, g + 1, rfl, hr, hz2, own_set4 ho2 hd _ _ _ _, hd, by omega, by simp only [size_setCell]; omega, hw, hB2⟩

end Go.Proofs.Ytklpaannmdbmiaa

namespace Go.Proofs.Ytklpaannmdbmiaa
set_option linter.all false
open Go.RowKit

set_option maxRecDepth 100000 in
set_option maxHeartbeats 400000 in
theorem big_any (p : Option Addr) (n cap : Nat) (w : World) (hn : n ≤ maxLen) :
    Calls Try.prog 4 #[.slice p n cap] w fun e w' => e = .returned (.bool (decide (1048576 < n))) ∧ w = w' := by
  unfold maxLen at hn
  go_enter Try.func4, Try.ntmps4
  by_cases h : 1048576 < n
  · have h2 : (1048576 : Int) < (n : Int) := by omega
    go_wp2
    go_ret
    exact ⟨ret_bool (by simp [h]), rfl⟩
  · have h2 : ¬ (1048576 : Int) < (n : Int) := by omega
    go_wp2
    go_ret
    exact ⟨ret_bool (by simp [h]), rfl⟩

section
open Go.ChangeShapes Go.WideShapes Go.RowKit Go.Deep Go.WideElems Go.Maps
/-- bytes that came in -/
theorem trod_byts {H : Type} {enc : TypeId × Value → H} {P : Program} {W : World} {m : Nat} {t e : TypeId} {a : Option Addr} {l c : Nat} {y : DataW H × List MemPlace}
    (ht : P.underlying t = some (.slice e)) (he : P.underlying e = some (.int .u8)) (hc : P.cellsOf e = 1)
    (h : DataW.trod enc P W 0 (fun _ => true) true m t [.slice a l c] = some y) : l ≤ maxLen ∧ Byts W (.slice a l c) l := by
  rcases open_ints ht he hc h with ⟨hcs, _⟩ | ⟨x, l', c', zs, hcs, _, hl, hm, hz, _, hcell, _⟩
  · injection hcs with hcs
    injection hcs with h1 h2 h3
    subst h1 h2 h3
    exact ⟨Nat.zero_le _, fun _ => 0, none, 0, rfl, ⟨Nat.le_refl _, Nat.zero_le _⟩, fun h => absurd h (Nat.lt_irrefl _)⟩
  · injection hcs with hcs
    injection hcs with h1 h2 h3
    subst h1 h2 h3
    refine ⟨by omega, fun j => zs.getD j 0, some x, c, rfl, ⟨hl, hm⟩, fun h0 => ?_⟩
    have hz' : zs.length = c := by simpa using hz
    have h0' := hcell 0 (by omega)
    obtain ⟨b, off, spot⟩ := x
    have hs : spot = none := by
      cases spot with
      | none => rfl
      | some s => simp [Addr.add, World.cell?] at h0'; split at h0' <;> simp_all
    subst hs
    refine ⟨b, off, rfl, fun j hj => ?_⟩
    have hadd : (⟨b, off, none⟩ : Addr).add j = ⟨b, off + j, none⟩ := by unfold Addr.add; split <;> simp_all
    rw [← hadd]
    exact hcell j (by omega)
end

end Go.Proofs.Ytklpaannmdbmiaa

namespace Go.Proofs.Ytklpaannmdbmiaa
set_option linter.all false
open Go.RowKit

/-- bytes that can be read, each in its range -/
def Byts8 (w : World) (v : Value) (n : Nat) : Prop := ∃ f : Nat → Int, (Rd w v n fun j => .int .u8 (f j)) ∧ ∀ j, j < n → 0 ≤ f j ∧ f j ≤ 255
theorem Byts8.byts {w : World} {v : Value} {n : Nat} (h : Byts8 w v n) : Byts w v n := by
  obtain ⟨f, h, _⟩ := h
  exact ⟨f, h⟩
theorem Byts8.below {w w' : World} {v : Value} {n : Nat} (h : Byts8 w v n) (hb : Below w.heap.size w w') : Byts8 w' v n := by
  obtain ⟨f, h, h2⟩ := h
  exact ⟨f, h.below hb, h2⟩

set_option maxRecDepth 100000 in
set_option maxHeartbeats 2000000 in
theorem at0_any (v : Value) (l i : Nat) (w : World) (h : Byts8 w v l) (hl : l ≤ 1048576) (hi : i ≤ 100) :
    Calls Try.prog 9 #[v, .int .i64 (i : Int)] w fun e w' => ∃ x : Nat, e = .returned (.int .i64 (x : Int)) ∧ x ≤ 255 ∧ w = w' := by
  obtain ⟨f, ⟨q, cap, rfl, hm, hx⟩, hr⟩ := h
  have Hr := Lib.hid hr
  have Hx := Lib.hid hx
  clear hr hx
  by_cases hlt : i < l
  · obtain ⟨b, off, rfl, hc⟩ := Hx.out (by omega)
    obtain ⟨x, hxx⟩ := Int.eq_ofNat_of_zero_le (Hr.out i hlt).1
    have c1 : w.cell? ⟨b, off + i, none⟩ = some (.int .u8 (x : Int)) := by rw [hc i hlt]; simp only [hxx]
    have hx2 : x ≤ 255 := by have := (Hr.out i hlt).2; omega
    have hlt2 : (i : Int) < (l : Int) := by omega
    clear hc hxx Hr Hx
    go_enter Try.func9, Try.ntmps9
    go_wp2_with fail
    go_ret
    exact ⟨x, rfl, hx2, rfl⟩
  · have hlt2 : ¬ (i : Int) < (l : Int) := by omega
    clear Hr Hx
    have h7 : IntKind.i64.wrap ((i : Int) * 7) = (i : Int) * 7 := k64 (by omega) (by omega)
    have h8 : IntKind.i64.wrap ((i : Int) * 7 + (l : Int)) = (i : Int) * 7 + (l : Int) := k64 (by omega) (by omega)
    have h9 : ((i : Int) * 7 + (l : Int)).tmod 256 = (((i * 7 + l) % 256 : Nat) : Int) := by
      rw [show (i : Int) * 7 + (l : Int) = ((i * 7 + l : Nat) : Int) from by omega]; rfl
    go_enter Try.func9, Try.ntmps9
    go_wp2_with fail
    go_ret
    exact ⟨(i * 7 + l) % 256, ret_int (by show ((i : Int) * 7 + (l : Int)) % 256 = _; omega), by omega, rfl⟩

theorem identity_ret (n : Nat) : ∀ j, j < n → (Value.int .i64 (j : Int)) = iv (idL n) j := fun j hj => by rw [iv, idL_getD hj]

section
open Go.ChangeShapes Go.WideShapes Go.RowKit Go.Deep Go.WideElems Go.Maps
/-- bytes that came in -/
theorem trod_byts8 {H : Type} {enc : TypeId × Value → H} {P : Program} {W : World} {m : Nat} {t e : TypeId} {a : Option Addr} {l c : Nat} {y : DataW H × List MemPlace}
    (ht : P.underlying t = some (.slice e)) (he : P.underlying e = some (.int .u8)) (hc : P.cellsOf e = 1)
    (h : DataW.trod enc P W 0 (fun _ => true) true m t [.slice a l c] = some y) : l ≤ maxLen ∧ Byts8 W (.slice a l c) l := by
  rcases open_ints ht he hc h with ⟨hcs, _⟩ | ⟨x, l', c', zs, hcs, _, hl, hm, hz, _, hcell, hwf⟩
  · injection hcs with hcs
    injection hcs with h1 h2 h3
    subst h1 h2 h3
    exact ⟨Nat.zero_le _, fun _ => 0, ⟨none, 0, rfl, ⟨Nat.le_refl _, Nat.zero_le _⟩, fun h => absurd h (Nat.lt_irrefl _)⟩, fun j hj => absurd hj (Nat.not_lt_zero _)⟩
  · injection hcs with hcs
    injection hcs with h1 h2 h3
    subst h1 h2 h3
    have hz' : zs.length = c := by simpa using hz
    refine ⟨by omega, fun j => zs.getD j 0, ⟨some x, c, rfl, ⟨hl, hm⟩, fun h0 => ?_⟩, fun j hj => ?_⟩
    · have h0' := hcell 0 (by omega)
      obtain ⟨b, off, spot⟩ := x
      have hs : spot = none := by
        cases spot with
        | none => rfl
        | some s => simp [Addr.add, World.cell?] at h0'; split at h0' <;> simp_all
      subst hs
      refine ⟨b, off, rfl, fun j hj => ?_⟩
      have hadd : (⟨b, off, none⟩ : Addr).add j = ⟨b, off + j, none⟩ := by unfold Addr.add; split <;> simp_all
      rw [← hadd]
      exact hcell j (by omega)
    · have hw := hwf (zs.getD j 0) (getD_mem (by omega))
      simp [Lit.wf, IntKind.wrap] at hw
      rw [show IntKind.u8.min = 0 from by rfl, show IntKind.u8.max = 255 from by rfl] at hw
      simpa [List.getD_eq_getElem?_getD] using hw
end

end Go.Proofs.Ytklpaannmdbmiaa

namespace Go.Proofs.Ytklpaannmdbmiaa
set_option linter.all false
open Go.RowKit

theorem keepR8 {wr W W' : World} {a0 a1 a2 a3 a4 a5 a6 a7 : Addr} {v0 v1 v2 v3 v4 v5 v6 v7 : Value} (hb : Below W.heap.size W W') (h : (W.cell? a0 = some v0 ∧ W.cell? a1 = some v1 ∧ W.cell? a2 = some v2 ∧ W.cell? a3 = some v3 ∧ W.cell? a4 = some v4 ∧ W.cell? a5 = some v5 ∧ W.cell? a6 = some v6 ∧ W.cell? a7 = some v7) ∧ Below wr.heap.size wr W) : (W'.cell? a0 = some v0 ∧ W'.cell? a1 = some v1 ∧ W'.cell? a2 = some v2 ∧ W'.cell? a3 = some v3 ∧ W'.cell? a4 = some v4 ∧ W'.cell? a5 = some v5 ∧ W'.cell? a6 = some v6 ∧ W'.cell? a7 = some v7) ∧ Below wr.heap.size wr W' := by
  obtain ⟨⟨h0, h1, h2, h3, h4, h5, h6, h7⟩, hB⟩ := h
  exact ⟨⟨cell_below hb h0, cell_below hb h1, cell_below hb h2, cell_below hb h3, cell_below hb h4, cell_below hb h5, cell_below hb h6, cell_below hb h7⟩, below_trans hB hb⟩

set_option maxRecDepth 100000 in
set_option maxHeartbeats 8000000 in
theorem lawFnRanks (p : Option Addr) (l cap : Nat) (w : World) (hl : l ≤ maxLen) (h : Byts8 w (.slice p l cap) l) :
    Calls Try.prog 3 #[.slice p l cap] w fun e w' => e = .returned (.bool true) ∧ Below w.heap.size w w' := by
  have Hl := Lib.hid hl
  have Hh := Lib.hid h
  clear hl h
  go_enter Try.func3, Try.ntmps3
  go_wp2_with fail
  refine (big_any p l cap _ Hl.out).mono ?_
  rintro e w' ⟨rfl, rfl⟩
  by_cases hb : 1048576 < l
  · have e1 : decide (1048576 < l) = true := by simp [hb]
    rw [e1]
    go_wp2_with fail
    go_ret
    exact ⟨rfl, Below.refl _ _⟩
  · have e1 : decide (1048576 < l) = false := by simp [hb]
    have hl2 : l ≤ 1048576 := by omega
    rw [e1]
    clear e1 hb
    go_wp2_with fail
    refine (DrawRanks_any _ l _ Hh.out.byts).mono ?_
    rintro e w1 ⟨P, n, ua, ub, DM, DW, rfl, hp, hn1, hx5, hiM, hlM, hrM, hiW, hb1⟩
    have HD := Lib.hid (show RkD P n DM DW from ⟨hp, hn1, hx5, hlM, hrM⟩)
    have HlM := Lib.hid hlM
    have HP := Lib.hid hp
    have HX5 := Lib.hid hx5
    obtain ⟨hP2, hP7⟩ := primeOk_range hp
    have hn5 := hx5.le
    have IM_1 := Lib.hid hiM
    have IW_1 := Lib.hid hiW
    have B_1 := Lib.hid hb1
    obtain ⟨pM, kM, rfl, -⟩ := hiM
    obtain ⟨pW, kW, rfl, -⟩ := hiW
    have hlW := hx5.len
    rw [hlW] at IW_1 ⊢
    have HlW := Lib.hid hlW
    clear hlM hrM hb1 hp hx5 hlW
    go_wp2_with fail
    refine (implKeepsRanks_ex P n n _ _ DM DW _ (IM_1.out.below (below_alloc w1 (.cells #[.int .i64 P, .int .i64 (n : Int), .int .i64 (n : Int), .slice pM DM.length kM] 26))) (IW_1.out.below (below_alloc w1 (.cells #[.int .i64 P, .int .i64 (n : Int), .int .i64 (n : Int), .slice pM DM.length kM] 26)))).mono ?_
    rintro e w2 ⟨kb, rfl, hk, hb⟩
    have HK := Lib.hid hk
    clear hk
    have bl2 : Below w1.heap.size w1 w2 := (below_alloc w1 (.cells #[.int .i64 P, .int .i64 (n : Int), .int .i64 (n : Int), .slice pM DM.length kM] 26)).trans (hb.mono (by first | (simp; done) | (simp; omega)))
    have sz2 : w1.heap.size + 1 ≤ w2.heap.size := by have := hb.size; simp at this; omega
    have B_2 := Lib.hid (B_1.out.trans (bl2.mono B_1.out.size))
    have ZM_2 := Lib.hid ((hb.block _ (by simp)).trans (heap_alloc_top w1 (.cells #[.int .i64 P, .int .i64 (n : Int), .int .i64 (n : Int), .slice pM DM.length kM] 26)))
    have IM_2 := Lib.hid (IM_1.out.below bl2)
    have IW_2 := Lib.hid (IW_1.out.below bl2)
    clear hb bl2 IM_1 IW_1 B_1
    obtain ⟨cM0, cM1, cM2, cM3, cMf, cMz⟩ := blk4 ZM_2.out
    go_wp2_with fail
    refine (implKeepsEss_ex P n n _ _ DM DW _ IM_2.out IW_2.out).mono ?_
    rintro e w3 ⟨eb, rfl, he, hb⟩
    obtain rfl : kb = eb := HD.out.kp_ke HK.out he
    clear he
    have bl3 : Below w2.heap.size w2 w3 := hb
    have sz3 : w2.heap.size ≤ w3.heap.size := hb.size
    have B_3 := Lib.hid (B_2.out.trans (bl3.mono B_2.out.size))
    have ZM_3 := Lib.hid (blk_later ZM_2.out bl3)
    have IM_3 := Lib.hid (IM_2.out.below bl3)
    have IW_3 := Lib.hid (IW_2.out.below bl3)
    clear hb bl3 ZM_2 IM_2 IW_2 B_2
    clear cM0 cM1 cM2 cM3 cMf cMz
    obtain ⟨cM0, cM1, cM2, cM3, cMf, cMz⟩ := blk4 ZM_3.out
    go_wp2_with fail
    refine (pm2 P _ DW n _ HP.out HX5.out IW_3.out).mono ?_
    rintro e w4 ⟨pQ, kQ, DQ, rfl, hoi, hb, hdq⟩
    have HDQ := Lib.hid hdq
    clear hdq
    have bl4 : Below w3.heap.size w3 w4 := hb
    have sz4 : w3.heap.size ≤ w4.heap.size := hb.size
    have B_4 := Lib.hid (B_3.out.trans (bl4.mono B_3.out.size))
    have ZM_4 := Lib.hid (blk_later ZM_3.out bl4)
    have IM_4 := Lib.hid (IM_3.out.below bl4)
    have IW_4 := Lib.hid (IW_3.out.below bl4)
    clear hb bl4 ZM_3 IM_3 IW_3 B_3
    clear cM0 cM1 cM2 cM3 cMf cMz
    have IQ_4 := Lib.hid (hoi)
    clear hoi
    obtain ⟨cM0, cM1, cM2, cM3, cMf, cMz⟩ := blk4 ZM_4.out
    go_wp2_with fail
    refine (kq1 P n _ _ DW DW DQ true _ HP.out hn1 HX5.out HX5.out (blw_self (n := n)) HDQ.out IQ_4.out IW_4.out).mono ?_
    rintro e w5 ⟨rfl, hb⟩
    have bl5 : Below w4.heap.size w4 w5 := hb
    have sz5 : w4.heap.size ≤ w5.heap.size := hb.size
    have B_5 := Lib.hid (B_4.out.trans (bl5.mono B_4.out.size))
    have ZM_5 := Lib.hid (blk_later ZM_4.out bl5)
    have IM_5 := Lib.hid (IM_4.out.below bl5)
    have IQ_5 := Lib.hid (IQ_4.out.below bl5)
    have IW_5 := Lib.hid (IW_4.out.below bl5)
    clear hb bl5 ZM_4 IM_4 IQ_4 IW_4 B_4
    clear cM0 cM1 cM2 cM3 cMf cMz
    obtain ⟨cM0, cM1, cM2, cM3, cMf, cMz⟩ := blk4 ZM_5.out
    go_wp2_with fail
    have HlM2 := Lib.hid (show DM.length ≤ 1048576 by rw [HlM.out]; have : n * n ≤ 5 * 5 := Nat.mul_le_mul (by omega) (by omega); omega)
    have X1 := Lib.hid (AppIn.first (T := 3) IM_5.out)
    have X2 := Lib.hid (X1.out.alloc (.cells #[.int .i64 0, .int .i64 0, .int .i64 0, .slice none 0 0] 26))
    have X3 := Lib.hid (AppIn.after (T := 3) IM_5.out (.cells #[.int .i64 0, .int .i64 0, .int .i64 0, .slice none 0 0] 26))
    have Y2 := Lib.hid (show ((w5.alloc (.cells #[] 3)).drew.alloc (.cells #[.int .i64 0, .int .i64 0, .int .i64 0, .slice none 0 0] 26)).heap[w5.heap.size + 1]? = some (.cells #[.int .i64 0, .int .i64 0, .int .i64 0, .slice none 0 0] 26) from heap_alloc_at _ _ (by show w5.heap.size + 1 = (w5.alloc (.cells #[] 3)).heap.size; rw [size_alloc]))
    have Y3 := Lib.hid (show ((w5.alloc (.cells #[.int .i64 0, .int .i64 0, .int .i64 0, .slice none 0 0] 26)).alloc (.cells #[] 3)).drew.heap[w5.heap.size]? = some (.cells #[.int .i64 0, .int .i64 0, .int .i64 0, .slice none 0 0] 26) from (heap_alloc_low _ _ (by rw [size_alloc]; omega)).trans (heap_alloc_top w5 _))
    go_cut [7] (fun s7 wc => CutBox 3 26 w5 wc ⟨P, (n : Int), (n : Int), DM⟩ s7)
    case first =>
      go_region_law (first | (refine step_append_A rfl (.tmp 44) (.tmp 46) 24 rfl 3 Try.underlying24 info_int w5.heap.size _ DM X1.out rfl rfl HlM2.out ?_; intro pK kK w' hown hbB hg'; obtain ⟨eA0, eA1, eA2, eA3, eAf, eAz⟩ := blk4 (blk_later ZM_5.out hbB)) | (refine step_append_A rfl (.tmp 44) (.tmp 46) 24 rfl 3 Try.underlying24 info_int w5.heap.size _ DM X2.out rfl rfl HlM2.out ?_; intro pK kK w' hown hbB hg'; obtain ⟨eA0, eA1, eA2, eA3, eAf, eAz⟩ := blk4 (blk_later ZM_5.out hbB); have hbx := (hg'.block (w5.heap.size + 1) (blk_lt Y2.out) (fun e => absurd (Option.some.inj e) (by omega))).trans Y2.out; obtain ⟨gK0, gK1, gK2, gK3, gKf, gKz⟩ := blk4 hbx) | (refine step_append_A rfl (.tmp 44) (.tmp 46) 24 rfl 3 Try.underlying24 info_int (w5.heap.size + 1) _ DM X3.out rfl rfl HlM2.out ?_; intro pK kK w' hown hbB hg'; obtain ⟨eA0, eA1, eA2, eA3, eAf, eAz⟩ := blk4 (blk_later ZM_5.out hbB); have hbx := (hg'.block w5.heap.size (blk_lt Y3.out) (fun e => absurd (Option.some.inj e) (by omega))).trans Y3.out; obtain ⟨gK0, gK1, gK2, gK3, gKf, gKz⟩ := blk4 hbx))
      all_goals go_wp2_with fail
      all_goals go_meet
      all_goals first
        | (with_reducible refine cutBox_alloc (M := ⟨_, _, _, _⟩) hbB hown ?_; exact Nat.le_refl _)
        | (with_reducible refine cutBox_set2 (M := ⟨_, _, _, _⟩) hbB hbx hown ?_ ?_ ?_ <;> first | omega | decide)
    case rest =>
      obtain ⟨qK, pK, kK, loK, hiK, rfl, hq1, hblk, hown, hq2, hq3, hq4, hq5, hb3⟩ := hcut
      dsimp only at hblk hown
      obtain ⟨wk, rfl⟩ : ∃ x : World, x = wc := ⟨_, rfl⟩
      have ZKk := Lib.hid hblk
      have hof := hown.fn
      have hL0 : 0 < DM.length := by rw [HlM.out]; exact Nat.mul_pos hn1 hn1
      have HL6 := Lib.hid (show DM.length ≤ 1000000 by rw [HlM.out]; have : n * n ≤ 5 * 5 := Nat.mul_le_mul (by omega) (by omega); omega)
      obtain ⟨g, rfl, hg1, hg2, hg3⟩ := hof.at_ hL0
      have Hown := Lib.hid hown
      have HbK := Lib.hid hb3
      have Hq2 := Lib.hid hq2
      have ZMk := Lib.hid (blk_later ZM_5.out hb3)
      clear hblk hown hof hb3 hq2 cM0 cM1 cM2 cM3 cMf X1 X2 X3 Y2 Y3
      go_wp2_with fail
      go_loopg [8] (n - 1) (fun gg s8 wr => ∃ (i : Nat) (D' : List Int), 1 ≤ i ∧ i ≤ n ∧ gg = n - i ∧ s8 = .int .i64 i ∧ Frm loK hiK wk wr ∧ Hid (OwnI 3 wr loK hiK (.slice (some ⟨g, 0, none⟩) DM.length kK) D') ∧ Hid (RngD P n D') ∧ Hid (SameC P n DM D'))
      case atStart => exact ⟨1, DM, Nat.le_refl _, hn1, rfl, rfl, Frm.refl _ _ _, Hown.out, HD.out.rgD, SameC.refl _ _ _⟩
      case round =>
        obtain ⟨i, D', hi1, hin, rfl, rfl, hF, hO, hR, hS⟩ := hrel
        have HF := Lib.hid hF
        have HO := Lib.hid hO.out
        have HR := Lib.hid hR.out
        have HS := Lib.hid hS.out
        clear hF hO hR hS
        by_cases hlt : i < n
        · have hlt2 : (i : Int) < (n : Int) := by omega
          go_wp2_with fail
          refine (at0_any _ l i _ (Hh.out.below (B_5.out.trans ((HbK.out.mono B_5.out.size).trans (HF.out.below (by have := B_5.out.size; omega) (by have := B_5.out.size; have := HbK.out.size; omega))))) hl2 (by omega)).mono ?_
          rintro e w' ⟨x, rfl, hx, rfl⟩
          obtain ⟨j, hj⟩ : ∃ j, j = x % i := ⟨_, rfl⟩
          have hji : j < i := by rw [hj]; exact Nat.mod_lt _ (by omega)
          have hjn : j < n := by omega
          have hm1 : (x : Int) % (i : Int) = (j : Int) := by rw [hj]; rfl
          have hm2 : (x : Int).tmod (i : Int) = (j : Int) := by rw [Int.tmod_eq_emod_of_nonneg (by omega)]; exact hm1
          have hi0 : ¬ (i : Int) = 0 := by omega
          clear hj
          go_wp2_with fail
          clear hm1 hm2
          go_loopg [10] n (fun gg s10 wr => ∃ (k : Nat) (D1 : List Int), k ≤ n ∧ gg = n - k ∧ s10 = .int .i64 k ∧ Frm loK hiK wk wr ∧ Hid (OwnI 3 wr loK hiK (.slice (some ⟨g, 0, none⟩) DM.length kK) D1) ∧ Hid (AddIn P n D' D1 i j k) ∧ Hid (RngD P n D1))
          case atStart => exact ⟨0, D', Nat.zero_le _, rfl, rfl, HF.out, HO.out, AddIn.start HR.out.1, HR.out⟩
          case round =>
            as_aux_lemma =>
            obtain ⟨k, D1, hkn, rfl, rfl, hF, hO1, hA1, hR1⟩ := hrel
            have HF1 := Lib.hid hF
            have HO1 := Lib.hid hO1.out
            have HA1 := Lib.hid hA1.out
            have HR1 := Lib.hid hR1.out
            clear hF hO1 hA1 hR1
            by_cases hkl : k < n
            · have hkl2 : (k : Int) < (n : Int) := by omega
              obtain ⟨Ka, HKa, Hkra, Hkka, hKal⟩ := mul_row HlM.out HL6.out (i := i) (j := k) hlt hkl
              obtain ⟨Ha1, Ha2, ha0, ha1, ha2⟩ := idx_facts hKal HL6.out
              obtain ⟨Kb, HKb, Hkrb, Hkkb, hKbl⟩ := mul_row HlM.out HL6.out (i := j) (j := k) hjn hkl
              obtain ⟨Hb1, Hb2, hb0, hb1, hb2⟩ := idx_facts hKbl HL6.out
              have HlD := Lib.hid (show D1.length = DM.length by rw [HA1.out.1, HlM.out])
              have hof := HO1.out.fn
              rw [HlD.out] at hof
              have e1 := hof.cell hKal
              have e2 := hof.cell hKbl
              have e3 := hof.frozen (Ka + k)
              unfold iv at e1 e2
              obtain ⟨z1, hz1⟩ : ∃ z, z = D1.getD (Ka + k) 0 := ⟨_, rfl⟩
              obtain ⟨z2, hz2⟩ : ∃ z, z = D1.getD (Kb + k) 0 := ⟨_, rfl⟩
              rw [← hz1] at e1
              rw [← hz2] at e2
              have r1 := HR1.out.2 i k hlt hkl
              rw [← HKa.out, ← hz1] at r1
              have r2 := HR1.out.2 j k hjn hkl
              rw [← HKb.out, ← hz2] at r2
              have hp0 : ¬ P = 0 := by omega
              have Hz1 := Lib.hid hz1
              have Hz2 := Lib.hid hz2
              have Hs := Lib.hid (show IntKind.i64.wrap (z1 + z2) = z1 + z2 from k64 (by omega) (by omega))
              have Ht := Lib.hid (show (z1 + z2).tmod P = (z1 + z2) % P from Int.tmod_eq_emod_of_nonneg (by omega))
              obtain ⟨a0, a1, a2, a3, af, az⟩ := blk4 (HF1.out.blk ZMk.out (Or.inl (by omega)))
              obtain ⟨q0, q1, q2, q3, qf, qz⟩ := blk4 (HF1.out.blk ZKk.out Hq2.out)
              clear hz1 hz2 hof
              go_wp2_with fail
              have f1 := Hkra.out
              have f2 := Hkka.out
              have f3 := Hkrb.out
              have f4 := Hkkb.out
              have f5 := Ha1.out
              have f6 := Ha2.out
              have f7 := Hb1.out
              have f8 := Hb2.out
              have f9 := Hs.out
              have f10 := Ht.out
              go_still_tail 30, (by kernel_rfl)
              change wpList _ _ _ _ _ wr.drew
              clear f1 f2 f3 f4 f5 f6 f7 f8 f9 f10
              go_wp2_with fail
              clear a0 a1 a2 a3 af az q0 q1 q2 q3 qf qz e1 e2 e3
              go_roundg (n - (k + 1))
              case measure => omega
              case rel =>
                have hst := HA1.out.step hlt hji hkl
                rw [← HKa.out, ← HKb.out, ← Hz1.out, ← Hz2.out] at hst
                refine ⟨k + 1, _, by omega, rfl, by go_num, (HF1.out.drewN 1).setCell hg1 hg2 _, ?_, hst, ?_⟩
                · exact OwnI.setAt (Own.drewN HO1.out 1) (by rw [HlD.out]; exact hKal) _
                · exact HR1.out.setR (by rw [← HlM.out]; exact hKal) (emod_rng hP2 _)
            · obtain rfl : n = k := by omega
              have hkl2 : ¬ (n : Int) < (n : Int) := by omega
              have Hr1 := Lib.hid (HA1.out.rng hP2 HR.out)
              have Hs1 := Lib.hid (HS.out.trans (HA1.out.sameC hlt hji))
              go_wp2_with fail
              obtain ⟨DA, rfl⟩ : ∃ x : List Int, x = D1 := ⟨_, rfl⟩
              have HF2 := Lib.hid HF1.out
              have HO2 := Lib.hid HO1.out
              clear HF1 HO1 HA1 HR1 hkl hkl2
              go_loopg [11] n (fun gg s11 wr => ∃ (k : Nat) (D1 : List Int), k ≤ n ∧ gg = n - k ∧ s11 = .int .i64 k ∧ Frm loK hiK wk wr ∧ Hid (OwnI 3 wr loK hiK (.slice (some ⟨g, 0, none⟩) DM.length kK) D1) ∧ Hid (ColIn P n DA D1 i j k) ∧ Hid (RngD P n D1))
              case atStart => exact ⟨0, DA, Nat.zero_le _, rfl, rfl, HF2.out, HO2.out, ColIn.start Hr1.out.1, Hr1.out⟩
              case round =>
                as_aux_lemma =>
                obtain ⟨k, D1, hkn, rfl, rfl, hF, hO1, hA1, hR1⟩ := hrel
                have HF1 := Lib.hid hF
                have HO1 := Lib.hid hO1.out
                have HA1 := Lib.hid hA1.out
                have HR1 := Lib.hid hR1.out
                clear hF hO1 hA1 hR1
                by_cases hkl : k < n
                · have hkl2 : (k : Int) < (n : Int) := by omega
                  obtain ⟨Ka, HKa, Hkra, Hkka, hKal⟩ := mul_row HlM.out HL6.out (i := k) (j := i) hkl hlt
                  obtain ⟨Ha1, Ha2, ha0, ha1, ha2⟩ := idx_facts hKal HL6.out
                  obtain ⟨Kb, HKb, Hkrb, Hkkb, hKbl⟩ := mul_row HlM.out HL6.out (i := k) (j := j) hkl hjn
                  obtain ⟨Hb1, Hb2, hb0, hb1, hb2⟩ := idx_facts hKbl HL6.out
                  have HlD := Lib.hid (show D1.length = DM.length by rw [HA1.out.1, HlM.out])
                  obtain rfl : Ka = Kb := by rw [HKa.out, HKb.out]
                  have hof := HO1.out.fn
                  rw [HlD.out] at hof
                  have e1 := hof.cell hKal
                  have e2 := hof.cell hKbl
                  have e3 := hof.frozen (Ka + i)
                  unfold iv at e1 e2
                  obtain ⟨z1, hz1⟩ : ∃ z, z = D1.getD (Ka + i) 0 := ⟨_, rfl⟩
                  obtain ⟨z2, hz2⟩ : ∃ z, z = D1.getD (Ka + j) 0 := ⟨_, rfl⟩
                  rw [← hz1] at e1
                  rw [← hz2] at e2
                  have r1 := HR1.out.2 k i hkl hlt
                  rw [← HKa.out, ← hz1] at r1
                  have r2 := HR1.out.2 k j hkl hjn
                  rw [← HKb.out, ← hz2] at r2
                  have hp0 : ¬ P = 0 := by omega
                  have Hz1 := Lib.hid hz1
                  have Hz2 := Lib.hid hz2
                  have Hs := Lib.hid (show IntKind.i64.wrap (z1 + z2) = z1 + z2 from k64 (by omega) (by omega))
                  have Ht := Lib.hid (show (z1 + z2).tmod P = (z1 + z2) % P from Int.tmod_eq_emod_of_nonneg (by omega))
                  obtain ⟨a0, a1, a2, a3, af, az⟩ := blk4 (HF1.out.blk ZMk.out (Or.inl (by omega)))
                  obtain ⟨q0, q1, q2, q3, qf, qz⟩ := blk4 (HF1.out.blk ZKk.out Hq2.out)
                  clear hz1 hz2 hof
                  go_wp2_with fail
                  have f1 := Hkra.out
                  have f2 := Hkka.out
                  have f3 := Hkrb.out
                  have f4 := Hkkb.out
                  have f5 := Ha1.out
                  have f6 := Ha2.out
                  have f7 := Hb1.out
                  have f8 := Hb2.out
                  have f9 := Hs.out
                  have f10 := Ht.out
                  go_still_tail 30, (by kernel_rfl)
                  change wpList _ _ _ _ _ wr.drew
                  clear f1 f2 f3 f4 f5 f6 f7 f8 f9 f10
                  go_wp2_with fail
                  clear a0 a1 a2 a3 af az q0 q1 q2 q3 qf qz e1 e2 e3
                  go_roundg (n - (k + 1))
                  case measure => omega
                  case rel =>
                    have hst := HA1.out.step hlt hji hkl
                    rw [← HKa.out, ← Hz1.out, ← Hz2.out] at hst
                    refine ⟨k + 1, _, by omega, rfl, by go_num, (HF1.out.drewN 1).setCell hg1 hg2 _, ?_, hst, ?_⟩
                    · exact OwnI.setAt (Own.drewN HO1.out 1) (by rw [HlD.out]; exact hKal) _
                    · exact HR1.out.setR (by rw [← HlM.out]; exact hKal) (emod_rng hP2 _)
                · obtain rfl : n = k := by omega
                  have hkl2 : ¬ (n : Int) < (n : Int) := by omega
                  have Hr2 := Lib.hid (HA1.out.rng hP2 Hr1.out)
                  have Hs2 := Lib.hid (Hs1.out.trans (HA1.out.sameC HP.out Hr1.out hlt hji))
                  go_wp2_with fail
                  go_roundg (n - (i + 1))
                  case measure => omega
                  case rel => exact ⟨i + 1, D1, by omega, by omega, rfl, by go_num, HF1.out, HO1.out, Hr2.out, Hs2.out⟩
        · as_aux_lemma =>
          obtain rfl : i = n := by omega
          have hlt2 : ¬ (i : Int) < (i : Int) := by omega
          obtain ⟨w6, rfl⟩ : ∃ x : World, x = wr := ⟨_, rfl⟩
          have hb : Below w5.heap.size w5 w6 := HbK.out.trans (HF.out.below (by omega) HbK.out.size)
          obtain ⟨DX, rfl⟩ : ∃ x : List Int, x = D' := ⟨_, rfl⟩
          have HlX := Lib.hid (show DM.length = DX.length by rw [HR.out.1, HlM.out])
          have zk := HF.out.blk ZKk.out Hq2.out
          rw [HlX.out] at zk
          have ZX_6 := Lib.hid zk
          have hoi := HO.out.ints
          rw [HlX.out] at hoi
          have IX_6 := Lib.hid hoi
          have HDX := Lib.hid (HD.out.rebuilt HR.out)
          clear zk hoi
          have bl6 : Below w5.heap.size w5 w6 := hb
          have sz6 : w5.heap.size ≤ w6.heap.size := hb.size
          have B_6 := Lib.hid (B_5.out.trans (bl6.mono B_5.out.size))
          have ZM_6 := Lib.hid (blk_later ZM_5.out bl6)
          have IM_6 := Lib.hid (IM_5.out.below bl6)
          have IQ_6 := Lib.hid (IQ_5.out.below bl6)
          have IW_6 := Lib.hid (IW_5.out.below bl6)
          clear hb bl6 ZM_5 IM_5 IQ_5 IW_5 B_5
          obtain ⟨pX, hpX⟩ : ∃ x : Option Addr, x = some ⟨g, 0, none⟩ := ⟨_, rfl⟩
          rw [← hpX] at ZX_6 IX_6
          clear hpX
          obtain ⟨kX, hkX⟩ : ∃ x : Nat, x = kK := ⟨_, rfl⟩
          rw [← hkX] at ZX_6 IX_6
          clear hkX
          clear HF HO HbK Hown ZMk ZKk HlX
          obtain ⟨cM0, cM1, cM2, cM3, cMf, cMz⟩ := blk4 ZM_6.out
          obtain ⟨cX0, cX1, cX2, cX3, cXf, cXz⟩ := blk4 ZX_6.out
          go_wp2_with fail
          refine (DrawTwoPerms_any _ l _ (Hh.out.below B_6.out).byts).mono ?_
          rintro e w7 ⟨u1, u2, DU, DV, m, rfl, hiU, hiV, hu5, hv5, hm1, hb⟩
          have HU5 := Lib.hid hu5
          have HV5 := Lib.hid hv5
          have hiU2 := hiU
          have hiV2 := hiV
          obtain ⟨pU, kU, rfl, -⟩ := hiU2
          obtain ⟨pV, kV, rfl, -⟩ := hiV2
          obtain ⟨bb, hbb⟩ : ∃ x, blwB DU DV = x := ⟨_, rfl⟩
          have Hbb := Lib.hid hbb
          obtain ⟨r0, hr0⟩ : ∃ x : Int, ((crD P i DM i i : Nat) : Int) = x := ⟨_, rfl⟩
          have Hr0 := Lib.hid hr0
          have Hr1 := Lib.hid (show ((crD P i DX i i : Nat) : Int) = r0 by rw [HD.out.crS HDX.out HS.out (Nat.le_refl i) (Nat.le_refl i), hr0])
          clear hu5 hv5 hbb hr0
          have bl7 : Below w6.heap.size w6 w7 := hb
          have sz7 : w6.heap.size ≤ w7.heap.size := hb.size
          have B_7 := Lib.hid (B_6.out.trans (bl7.mono B_6.out.size))
          have ZM_7 := Lib.hid (blk_later ZM_6.out bl7)
          have ZX_7 := Lib.hid (blk_later ZX_6.out bl7)
          have IM_7 := Lib.hid (IM_6.out.below bl7)
          have IQ_7 := Lib.hid (IQ_6.out.below bl7)
          have IW_7 := Lib.hid (IW_6.out.below bl7)
          have IX_7 := Lib.hid (IX_6.out.below bl7)
          clear hb bl7 ZM_6 ZX_6 IM_6 IQ_6 IW_6 IX_6 B_6
          clear cM0 cM1 cM2 cM3 cMf cMz cX0 cX1 cX2 cX3 cXf cXz
          have IU_7 := Lib.hid hiU
          have IV_7 := Lib.hid hiV
          clear hiU hiV
          have Hp2 := Lib.hid (show primeOk 2 = true by decide)
          obtain ⟨cM0, cM1, cM2, cM3, cMf, cMz⟩ := blk4 ZM_7.out
          obtain ⟨cX0, cX1, cX2, cX3, cXf, cXz⟩ := blk4 ZX_7.out
          go_wp2_with fail
          obtain ⟨cM0, cM1, cM2, cM3, cMf, cMz⟩ := blk4 ZM_7.out
          obtain ⟨cX0, cX1, cX2, cX3, cXf, cXz⟩ := blk4 ZX_7.out
          go_region_held3 (fun w' => (w'.cell? ⟨w1.heap.size, 0, none⟩ = some (.int .i64 P) ∧ w'.cell? ⟨w1.heap.size, 1, none⟩ = some (.int .i64 (i : Int)) ∧ w'.cell? ⟨w1.heap.size, 2, none⟩ = some (.int .i64 (i : Int)) ∧ w'.cell? ⟨w1.heap.size, 3, none⟩ = some (.slice pM DM.length kM) ∧ w'.cell? ⟨qK, 0, none⟩ = some (.int .i64 P) ∧ w'.cell? ⟨qK, 1, none⟩ = some (.int .i64 (i : Int)) ∧ w'.cell? ⟨qK, 2, none⟩ = some (.int .i64 (i : Int)) ∧ w'.cell? ⟨qK, 3, none⟩ = some (.slice pX DX.length kX)) ∧ Below w7.heap.size w7 w')
            (first | exact ⟨⟨cM0, cM1, cM2, cM3, cX0, cX1, cX2, cX3⟩, (Below.refl _ _).drew⟩ | exact keepR8 hb1 (by assumption))
            (first
              | (go_at_call_of 6 (Value.agg #[.int .i64 P, .int .i64 (i : Int), .int .i64 (i : Int), .slice pX DX.length kX]); refine (kx1 P i _ _ DM DX DW kb _ HD.out HDX.out HS.out HK.out (held_ints IX_7.out (by assumption)) (held_ints IW_7.out (by assumption))).mono ?_; rintro e w' ⟨rfl, hb1⟩; have hBz : Below w7.heap.size w7 w' := below_trans (held_below (by assumption)) hb1)
              | (go_at_call 11; refine (cr1 P i _ DX DW r0 _ HDX.out Hr1.out (held_ints IX_7.out (by assumption))).mono ?_; rintro e w' ⟨rfl, hb1⟩; have hBz : Below w7.heap.size w7 w' := below_trans (held_below (by assumption)) hb1)
              | (go_at_call 12; refine (ro1 P i _ DM DW r0 _ HD.out Hr0.out (held_ints IM_7.out (by assumption))).mono ?_; rintro e w' ⟨rfl, hb1⟩; have hBz : Below w7.heap.size w7 w' := below_trans (held_below (by assumption)) hb1)
              | (go_at_call 8; refine (pm2 2 _ DV m _ Hp2.out HV5.out (held_ints IV_7.out (by assumption))).mono ?_; rintro e w' ⟨pZ, kZ, DZ, rfl, hoZ, hb1, hdZ⟩; have HdZ := Lib.hid hdZ; clear hdZ; have hBz : Below w7.heap.size w7 w' := below_trans (held_below (by assumption)) hb1)
              | (go_at_call_of 6 (Value.agg #[.int .i64 2, .int .i64 (m : Int), .int .i64 (m : Int), .slice pZ DZ.length kZ]); refine (kq1 2 m _ _ DV DU DZ bb _ Hp2.out hm1 HV5.out HU5.out Hbb.out HdZ.out (hoZ.below (by first | exact Below.refl _ _ | exact (Below.refl _ _).drew)) (held_ints IU_7.out (by assumption))).mono ?_; rintro e w' ⟨rfl, hb1⟩; have hBz : Below w7.heap.size w7 w' := below_trans (held_below (by assumption)) hb1)
              | (go_at_call 13; refine (below1 m _ _ DU DV bb _ HU5.out HV5.out hm1 Hbb.out (held_ints IU_7.out (by assumption)) (held_ints IV_7.out (by assumption))).mono ?_; rintro e w' ⟨rfl, hb1⟩; have hBz : Below w7.heap.size w7 w' := below_trans (held_below (by assumption)) hb1))
          all_goals go_wp2_with fail
          all_goals go_ret
          all_goals exact ⟨rfl, B_7.out.trans (hBz.mono B_7.out.size)⟩

end Go.Proofs.Ytklpaannmdbmiaa
