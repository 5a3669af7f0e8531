/-
  closed: a polynomial as the list of its terms.
  PolyOk, at lists of terms that may have great numbers.
  closed, at polynomials that may have great numbers.
  l2Shut; the reference's DoubleSchubert: where it says yes the numbers are small.
  slices.Index and slices.Contains at []int.
  What the program asks of numbers; its exchange of two places; the search among permutations.
  DoubleSchubert on both sides, permutations of at most five.
  DoubleSchubert of the program, permutations of at most five: it says yes where the numbers are small.
  The reference's sums over subwords. Plain.
-/
import Derived.Test.YtllmhicmikpfeaaJ6
import Derived.Test.YtllmhicmikpfeaaJ13
import Derived.Test.YtllmhicmikpfeaaJ1
import Derived.Test.YtllmhicmikpfeaaJ5
import Derived.Test.YtllmhicmikpfeaaJ2
import Derived.Test.YtllmhicmikpfeaaJ4
import Derived.Test.YtllmhicmikpfeaaJ9
import Derived.BigRegion
import Derived.Test.YtllmhicmikpfeaaJ12
namespace Go.Proofs.Ytllmhicmikpfeaa
set_option linter.all false
set_option maxRecDepth 100000
open Go.RowKit Go.Maps Go.WideMaps

theorem info_tm : (Try.prog.info? 63).map (fun i => (i.zero, i.size, i.bytes)) = some (some (.agg #[.slice none 0 0, .int .i64 0]), 2, 32) := by kernel_rfl

theorem bel_grown {w w' : World} (h : Below w.heap.size w w') (r : Option Nat) : w.grownBy w' r := ⟨h.os, h.tape, h.output, h.size, fun i hi _ => h.block i hi⟩
/-- terms of the call's own stay while an iterator goes on -/
theorem OwnTd.keepIt {w w' : World} {lo hi r : Nat} {v : Value} {cs : List Cls} {b : Option Nat} {x1 : Nat} {x2 : Array Nat} {x3 : Nat} (h : OwnTd w lo hi v cs) (hr : w.heap[r]? = some (.mapIter b x1 x2 x3)) (hg : w.grownBy w' (some r)) : OwnTd w' lo hi v cs := by
  obtain ⟨f, g1, g2, g3⟩ := h
  have hne : ∀ {T : TypeId} {k : Nat}, (∃ c fz, w.heap[k]? = some (.cells c T fz)) → some k ≠ some r := fun {T k} ⟨c, fz, hk⟩ e => by
    injection e with e
    rw [e, hr] at hk
    cases hk
  have g1' := g1
  obtain ⟨xs, ho, hf⟩ := g1
  exact ⟨f, ⟨xs, ⟨ownsRow_of_block ho.1 fun k hk => hg.block k (Own.block ho hk).2.2 (hne (g1'.kind k hk)), ho.2⟩, hf⟩, fun i hi => ⟨ownsRow_of_block (g2 i hi).1 fun k hk => hg.block k (Own.block (g2 i hi) hk).2.2 (hne (OwnI.kind (g2 i hi) k hk)), (g2 i hi).2⟩, g3⟩

set_option maxHeartbeats 8000000 in
theorem closed_any (u : Value) (d n : Nat) (P : Pl) (w : World) (S : List (List Int)) (hf : PolV w u d n P) (hd : d ≤ 24) (hco : ∀ e, -1000000 ≤ cfP P e ∧ cfP P e ≤ 1000000) (hS : ∀ e, K7 d e → cfP P e ≠ 0 → e ∈ S) (h6 : S.length ≤ 600) :
    Calls Try.prog 36 #[u] w fun e w' => ∃ v ts, e = .returned (.tuple #[v, .bool true]) ∧ OwnTd w' w.heap.size w'.heap.size v ts ∧ TsOk ts ∧ (∀ g, Ev ts g = Ev P g) ∧ Below w.heap.size w w' := by
  obtain ⟨bf, Df, rfl, hf1, hf2⟩ := hf
  have hblf := hf1.lt
  have HF1 := Lib.hid hf1
  have HF2 := Lib.hid hf2
  have Hco := Lib.hid hco
  have HS := Lib.hid hS
  have hsz := size_le hf1 hf2 (by omega) hco hS
  have hz6 : Maps.size Df ≤ 600 := by omega
  have e1 : ¬ (600 : Int) < (Maps.size Df : Int) := by omega
  have e2 : decide ((600 : Int) < (Maps.size Df : Int)) = false := decide_eq_false e1
  have hG0 := Lib.hid (Gath.start (T := fun g => g) hf1 hf2)
  obtain ⟨B, hB⟩ : ∃ B, B = w.heap.size := ⟨_, rfl⟩
  have HB := Lib.hid hB
  have es1 : (w.alloc (.cells #[] 63)).heap.size = w.heap.size + 1 := by simp
  clear hf2 hco hS hsz hf1
  go_enter Try.func36, Try.ntmps36
  go_wp2_with (first
    | (at_len; refine wpList_len_own _ rfl _ 52 rfl 72 3 und41 _ bf n _ rfl HF1.out ?_)
    | (at_range; refine wpList_range_own _ rfl _ 52 rfl 72 3 klaw und41 _ bf n _ rfl (HF1.out.alloc _) ?_; intro w0 hrg0 hg0 hs0)
    | fail)
  rw [es1] at hrg0 hs0
  have hbel0 : Below w.heap.size w w0 := ((Below.refl _ _).alloc (Nat.le_refl _) _).grown hg0 (by simp) (fun j hj => by cases hj)
  have hown0 : OwnTd w0 w.heap.size (w.heap.size + 1) (.slice (some ⟨w.heap.size, 0, none⟩) 0 0) [] := (OwnTd.made0 w).keep fun k _ _ h3 => hg0.block k h3 (by simp)
  rw [← hB] at hrg0 hs0 hbel0 hown0 hblf ⊢
  have Hbel0 := Lib.hid hbel0
  have Hown0 := Lib.hid hown0
  clear hbel0 hown0 hg0 es1 hB e1 e2
  go_loopg [4, 5, 6] (Maps.size Df) (fun g s4 s5 s6 wr => ∃ (left : Lit → Bool) (A : List Cls), RanP wr bf (B + 1) n Df left g ∧ g ≤ Maps.size Df ∧ A.length + g ≤ Maps.size Df ∧ (∀ l, left l = true → has Df l = true) ∧
      Hid (OwnTd wr B wr.heap.size s4 A) ∧ Hid (Got d P left A) ∧ Hid (Gath Df P (fun g => g) left A) ∧ Hid (Below B w wr) ∧ B + 2 ≤ wr.heap.size)
  case atStart => exact ⟨_, [], hrg0, Nat.le_refl _, by simp, fun _ h => h, Lib.hid (Hown0.out.mono (Nat.le_refl _) (by omega)), Lib.hid (Got.nil _ _ _), hG0, Hbel0, by omega⟩
  case round =>
    obtain ⟨left, A, hrg, hgs, hal, hleft, hO, hgot, hga, hbel, hsz2⟩ := hrel
    obtain ⟨wx, rfl⟩ : ∃ x : World, x = wr := ⟨_, rfl⟩
    obtain ⟨p4, k4, rfl, _, _⟩ := hO.out.shape
    go_wp2_with (first
      | (at_next; refine wpList_next_poly _ rfl _ rfl bf (B + 1) n d Df P left gk rfl hrg HF2.out (by omega) hleft ?_ ?_)
      | fail)
    · intro hc0 hl0
      have hend := hgot.out.end hd Hco.out HS.out h6 (hga.out.end hl0)
      have Hend := Lib.hid hend
      have hnd := hgot.out.nod
      have hm7 : ∀ t ∈ A, t.1.length = 7 ∧ ∀ j, 0 ≤ t.1.getD j 0 ∧ t.1.getD j 0 ≤ 1000000 := fun t ht => by
        have := hend.1.2.1 t ((srtT_perm A).mem_iff.2 ht)
        exact ⟨this.1, fun j => by have := this.2.1 j; omega⟩
      have Hsf := Lib.hid (sortFT_any (.slice p4 A.length k4) A B wx.heap.size wx hO.out (by omega) hnd hm7)
      clear hend hnd hm7 hrg hleft hO hgot hga
      go_wp2_with fail
      refine Hsf.out.mono ?_
      rintro e w2 ⟨rfl, ho2, hf2⟩
      have Ho2 := Lib.hid ho2
      have Hf2 := Lib.hid hf2
      clear ho2 hf2
      go_wp2_with fail
      refine (PolyOk_yes (.slice p4 A.length k4) (srtT A) _ Ho2.out.rd Hend.out.1).mono ?_
      rintro e w3 ⟨rfl, hb3⟩
      have hs2 := Hf2.out.size
      have hs3 := hb3.size
      have Ho3 := Lib.hid ((Ho2.out.below hb3).mono (Nat.le_refl _) (show wx.heap.size ≤ w3.heap.size by omega))
      have Hb3 := Lib.hid ((hbel.out.trans (Hf2.out.below (Nat.le_refl _) (by omega))).trans (hb3.mono (by omega)))
      clear hb3
      go_wp2_with fail
      go_ret2
      exact ⟨_, _, rfl, HB.out ▸ Ho3.out, Hend.out.1, Hend.out.2, HB.out ▸ Hb3.out⟩
    · intro a0 a1 a2 a3 a4 a5 a6 c w1 cnt1 hK hlx hwf hat hrg1 hlt hgr1 hs1 hen
      have hit : ∃ x1 x2 x3, wx.heap[B + 1]? = some (.mapIter (some bf) x1 x2 x3) := by
        obtain ⟨_, _, x1, x2, x3, _, _, _, _, h5, _⟩ := hrg
        exact ⟨x1, x2, x3, h5⟩
      obtain ⟨x1, x2, x3, hit⟩ := hit
      have HO1 := Lib.hid (hO.out.keepIt hit hgr1)
      have Hbel1 := Lib.hid (hbel.out.grown hgr1 (by omega) (fun j hj => by cases hj; omega))
      have hc := at_cf HF1.out HF2.out (by omega) Hco.out hK (hleft _ hlx) hat
      have Hgot := Lib.hid (hgot.out.snoc (by omega) hK hlx hc)
      have Hga := Lib.hid (hga.out.step HF2.out.tidy hK (by omega) hlx hat (A' := A ++ [([a0, a1, a2, a3, a4, a5, a6], c)]) fun g => by
        rw [Ev_append]
        exact Cg.of _ _ (by simp [Ev]))
      rw [← hs1] at HO1
      have hal2 : A.length + 1 + cnt1 ≤ Maps.size Df := by omega
      have hsz3 : B + 2 ≤ w1.heap.size := by omega
      have Hleft := Lib.hid hleft
      clear hit hc hat hgr1 hrg hO hgot hga hbel hleft hs1
      go_wp2_with fail
      have hI : Ints (w1.alloc (.cells #[.int .i64 a0, .int .i64 a1, .int .i64 a2, .int .i64 a3, .int .i64 a4, .int .i64 a5, .int .i64 a6] 72)) (.slice (some ⟨w1.heap.size, 0, none⟩) 7 7) [a0, a1, a2, a3, a4, a5, a6] :=
        ⟨some ⟨w1.heap.size, 0, none⟩, 7, rfl, ⟨Nat.le_refl _, by unfold maxLen; omega⟩, fun _ => ⟨w1.heap.size, 0, rfl, fun j hj => match j, hj with
          | 0, _ => cell_of_blk (heap_alloc_top _ _) (j := 0) rfl
          | 1, _ => cell_of_blk (heap_alloc_top _ _) (j := 1) rfl
          | 2, _ => cell_of_blk (heap_alloc_top _ _) (j := 2) rfl
          | 3, _ => cell_of_blk (heap_alloc_top _ _) (j := 3) rfl
          | 4, _ => cell_of_blk (heap_alloc_top _ _) (j := 4) rfl
          | 5, _ => cell_of_blk (heap_alloc_top _ _) (j := 5) rfl
          | 6, _ => cell_of_blk (heap_alloc_top _ _) (j := 6) rfl⟩⟩
      refine (clone_any _ [a0, a1, a2, a3, a4, a5, a6] _ hI (by simp)).mono ?_
      clear hI
      rintro e w2 ⟨u2, rfl, ho2, hb2⟩
      obtain ⟨xs, hxs⟩ : ∃ x, x = [a0, a1, a2, a3, a4, a5, a6] := ⟨_, rfl⟩
      obtain ⟨p2, k2, e2, _, _⟩ := ho2.shape
      have e3 : u2 = .slice p2 7 k2 := e2
      subst e3
      rw [← hxs] at ho2 Hgot Hga
      rw [← hxs] at hrg1
      have hsa : (w1.alloc (.cells #[.int .i64 a0, .int .i64 a1, .int .i64 a2, .int .i64 a3, .int .i64 a4, .int .i64 a5, .int .i64 a6] 72)).heap.size = w1.heap.size + 1 := size_alloc _ _
      have hb12 : Below w1.heap.size w1 w2 := (below_alloc _ _).trans (hb2.mono (by rw [hsa]; omega))
      have hs2 : w1.heap.size + 1 ≤ w2.heap.size := by have := hb2.size; rw [hsa] at this; exact this
      rw [hsa] at ho2
      have hO2 := HO1.out.below hb12
      obtain ⟨f, g1, g2, g3⟩ := hO2
      have hal : Below w2.heap.size w2 (w2.alloc (.cells #[.slice p2 7 k2, .int .i64 c] 63)) := below_alloc w2 _
      have g1a := Lib.hid (g1.below hal)
      have g2a := Lib.hid (show ∀ i, i < A.length → OwnI 3 (w2.alloc (.cells #[.slice p2 7 k2, .int .i64 c] 63)) B w1.heap.size (f i) (A.getD i clD).1 from fun i hi => (g2 i hi).below hal)
      have G3 := Lib.hid g3
      have Hxt := Lib.hid (ho2.below hal)
      have Hcl := Lib.hid (show ∀ j, j < 2 → (w2.alloc (.cells #[.slice p2 7 k2, .int .i64 c] 63)).cell? ⟨w2.heap.size, j, none⟩ = some (match j with | 0 => .slice p2 7 k2 | _ => .int .i64 c) from fun j hj =>
        match j, hj with
        | 0, _ => cell_of_blk (heap_alloc_top w2 _) (j := 0) rfl
        | 1, _ => cell_of_blk (heap_alloc_top w2 _) (j := 1) rfl)
      have Hone := Lib.hid (show ∀ j, j < 2 → (match j with | 0 => Value.slice p2 7 k2 | _ => .int .i64 c).oneCell' = true from fun j hj =>
        match j, hj with
        | 0, _ => rfl
        | 1, _ => rfl)
      have Hn1 := Lib.hid (show A.length + 1 ≤ maxLen by unfold maxLen; omega)
      have Hn2 := Lib.hid (show (A.length + 1) * 32 ≤ 140737488355328 by omega)
      have Hlo := Lib.hid (show B ≤ (w2.alloc (.cells #[.slice p2 7 k2, .int .i64 c] 63)).heap.size by rw [size_alloc]; omega)
      have Hhi := Lib.hid (show w1.heap.size ≤ (w2.alloc (.cells #[.slice p2 7 k2, .int .i64 c] 63)).heap.size by rw [size_alloc]; omega)
      have Hb12 := Lib.hid hb12
      have Hrg := Lib.hid hrg1
      have Hhal := Lib.hid hal
      have Hxs := Lib.hid hxs
      clear g1 g2 g3 ho2 hb2 hb12 hsa hal hrg1 hen hxs hK hlx hwf
      go_wp2_with (at_builtin; go_must (refine wpList_append_S rfl (.tmp 18) (.tmp 23) 29 rfl 63 _ 2 32 Try.underlying29 info_tm rfl (by omega) B w1.heap.size _ A.length (clF A f) rfl g1a.out Hlo.out _ _ _ rfl Hcl.out Hone.out Hn1.out Hn2.out ?_; intro v' w' hv hg))
      have hg' : (w2.alloc (.cells #[.slice p2 7 k2, .int .i64 c] 63)).grownBy w' (Value.slice p4 A.length k4).ownBlock := hg
      clear hg
      have hO' := OwnTd.snoc (m := (xs, c)) (hi := w2.heap.size) g1a.out g2a.out G3.out (OwnI.mono Hxt.out (by omega : w1.heap.size ≤ w1.heap.size + 1) (Nat.le_refl _)) (by omega) (by omega) hg' (by have := hg'.size; rw [size_alloc] at this; omega) hv
      have hbw : Below B w w' := (Hbel1.out.trans (Hb12.out.mono (by omega))).trans ((Hhal.out.mono (by omega)).trans (grownBy_below hg' g1a.out.blocks (Nat.le_refl _) Hlo.out))
      have hr1 : RanP w2 bf (B + 1) n Df (fun z => left z && !z.sameKey (kl xs)) cnt1 := Hrg.out.kept (bel_grown Hb12.out none) (by simp) (by simp)
      have hr2 := hr1.alloc (.cells #[.slice p2 7 k2, .int .i64 c] 63)
      have hr3 : RanP w' bf (B + 1) n Df (fun z => left z && !z.sameKey (kl xs)) cnt1 := hr2.kept hg' (fun e => by have := (g1a.out.blocks _ e.symm).1; omega) (fun e => by
        obtain ⟨_, _, _, _, _, _, _, _, _, h5, _⟩ := hr2
        obtain ⟨c1, fz, hk⟩ := g1a.out.kind _ e.symm
        rw [hk] at h5
        cases h5)
      have hsz4 : B + 2 ≤ w'.heap.size := by have := hg'.size; rw [size_alloc] at this; omega
      have HO' := Lib.hid hO'
      have Hbw := Lib.hid hbw
      have Hr3 := Lib.hid hr3
      clear hO' hbw hr1 hr2 hr3 hv hg'
      go_roundg cnt1
      case measure => exact hlt
      case rel => exact ⟨_, A ++ [(xs, c)], Hr3.out, by omega, by rw [List.length_append, List.length_singleton]; omega, (fun l h => Hleft.out l (by rw [Bool.and_eq_true] at h; exact h.1)), HO'.out, Hgot.out, Hga.out, Hbw.out, hsz4⟩

end Go.Proofs.Ytllmhicmikpfeaa

namespace Go.Proofs.Ytllmhicmikpfeaa
set_option linter.all false
set_option maxRecDepth 100000
open Go.RowKit

/-- a term within the limits -/
def TmFit (t : Cls) : Prop := t.1.length = 7 ∧ (∀ j, 0 ≤ t.1.getD j 0 ∧ t.1.getD j 0 ≤ 24) ∧ t.2 ≠ 0 ∧ -4611686018427387904 ≤ t.2 ∧ t.2 ≤ 4611686018427387904
/-- a polynomial within the limits -/
def TsFit (ts : List Cls) : Prop := ts.length ≤ 600 ∧ (∀ t ∈ ts, TmFit t) ∧ AscT ts
theorem TsFit.at {ts : List Cls} (h : TsFit ts) {k : Nat} (hk : k < ts.length) : TmFit (ts.getD k clD) := by
  have e : ts.getD k clD = ts[k] := by simp [List.getD_eq_getElem?_getD, hk]
  rw [e]
  exact h.2.1 _ (List.getElem_mem hk)
theorem TsFit.step {ts : List Cls} (h : TsFit ts) {m : Nat} (hk : m + 1 < ts.length) : ltT (ts.getD m clD).1 (ts.getD (m + 1) clD).1 = true := by
  have e : ts.getD m clD = ts[m]'(by omega) := by simp [List.getD_eq_getElem?_getD, show m < ts.length by omega]
  have e2 : ts.getD (m + 1) clD = ts[m + 1] := by simp [List.getD_eq_getElem?_getD, hk]
  rw [e, e2]
  exact List.pairwise_iff_getElem.1 h.2.2 m (m + 1) (by omega) hk (by omega)
theorem TsFit.cmp {ts : List Cls} (h : TsFit ts) {m : Nat} (hk : m + 1 < ts.length) : cmpT (ts.getD m clD).1 (ts.getD (m + 1) clD).1 < 0 := by
  have := h.step hk
  rw [← cmpT_neg (h.at (by omega)).1 (h.at hk).1] at this
  exact of_decide_eq_true this

def smB (t : Cls) : Bool := decide (-1000000 ≤ t.2) && decide (t.2 ≤ 1000000)
theorem smB_yes {t : Cls} (h1 : ¬ t.2 < -1000000) (h2 : ¬ 1000000 < t.2) : smB t = true := by
  unfold smB
  rw [decide_eq_true (by omega), decide_eq_true (by omega)]; rfl
theorem smB_no1 {t : Cls} (h1 : t.2 < -1000000) : smB t = false := by
  unfold smB
  rw [decide_eq_false (by omega)]; rfl
theorem smB_no2 {t : Cls} (h1 : 1000000 < t.2) : smB t = false := by
  unfold smB
  rw [decide_eq_false (p := t.2 ≤ 1000000) (by omega), Bool.and_false]
theorem all_no {ts : List Cls} {k : Nat} (hk : k < ts.length) (h : smB (ts.getD k clD) = false) : ts.all smB = false := by
  rw [List.all_eq_false]
  have e : ts.getD k clD = ts[k] := by simp [List.getD_eq_getElem?_getD, hk]
  exact ⟨_, List.getElem_mem hk, by rw [← e, h]; simp⟩
theorem all_snoc {ts : List Cls} {k : Nat} (hk : k < ts.length) (h : (ts.take k).all smB = true) (h2 : smB (ts.getD k clD) = true) : (ts.take (k + 1)).all smB = true := by
  have e : ts.getD k clD = ts[k] := by simp [List.getD_eq_getElem?_getD, hk]
  rw [List.take_add_one, List.getElem?_eq_getElem hk, List.all_append, h]
  have h3 : smB ts[k] = true := by rw [← e]; exact h2
  simp [h3]

set_option maxHeartbeats 4000000 in
theorem PolyOk_yn (v : Value) (ts : List Cls) (w : World) (h : RdCl w v ts) (hok : TsFit ts) :
    Calls Try.prog 40 #[v] w fun e w' => e = .returned (.bool (ts.all smB)) ∧ Below w.heap.size w w' := by
  have Hok := Lib.hid hok
  obtain ⟨f, h1, h2⟩ := h
  obtain ⟨p, cap, rfl, ⟨hn1, hn2⟩, hc⟩ := h1.two
  have Hc := Lib.hid hc
  have Hf := Lib.hid h2
  unfold maxLen at hn2
  obtain ⟨N, hN⟩ : ∃ N, N = ts.length := ⟨_, rfl⟩
  have HN := Lib.hid hN
  have h600 : N ≤ 600 := by rw [hN]; exact hok.1
  have e1 : ¬ (600 : Int) < (N : Int) := by omega
  rw [← hN] at hn1 Hc Hf ⊢
  clear h1 h2 hc hN hok
  go_enter Try.func40, Try.ntmps40
  go_wp2_with fail
  clear e1
  go_loopg [12] N (fun g i wr => ∃ k : Nat, k ≤ N ∧ g = N - k ∧ i = .int .i64 k ∧ Hid (Below w.heap.size w wr) ∧ Hid ((ts.take k).all smB = true))
  case atStart => exact ⟨0, Nat.zero_le _, rfl, rfl, Below.refl _ _, by simp [Hid]⟩
  case round =>
    obtain ⟨k, hk, rfl, rfl, hb, hsm⟩ := hrel
    obtain ⟨wo, rfl⟩ : ∃ x : World, x = wr := ⟨_, rfl⟩
    by_cases hlt : k < N
    · have hki : (k : Int) < (N : Int) := by omega
      obtain ⟨bx, rfl, hcc⟩ := Hc.out (by omega)
      obtain ⟨a0, a1⟩ := hcc k hlt
      have c0 := cell_below hb.out a0
      have c1 := cell_below hb.out a1
      have hfk := (Hf.out k hlt).below hb.out
      have htm := Hok.out.at (show k < ts.length by rw [← HN.out]; exact hlt)
      obtain ⟨xs, hxs⟩ : ∃ x, x = (ts.getD k clD).1 := ⟨_, rfl⟩
      obtain ⟨c, hcv⟩ : ∃ x, x = (ts.getD k clD).2 := ⟨_, rfl⟩
      unfold TmFit at htm
      rw [← hxs] at htm hfk
      rw [← hcv] at htm c1
      obtain ⟨t1, t2, t3, t4, t5⟩ := htm
      have Hfk := Lib.hid hfk
      have Ht1 := Lib.hid t1
      have Ht2 := Lib.hid t2
      obtain ⟨px, kx, hxe, ⟨hx1, hx2⟩, hxc⟩ := hfk
      rw [t1] at hxe
      rw [hxe] at c0
      rw [t1] at hx1 hxc
      have Hxs := Lib.hid hxs
      have z1 : (c == 0) = false := by simp [t3]
      have z4 : ¬ c = 0 := t3
      obtain ⟨ob, oo, rfl, hxd⟩ := hxc (by omega)
      have Hxd := Lib.hid hxd
      have Hhxe := Lib.hid hxe
      have hkT : k < ts.length := by rw [← HN.out]; exact hlt
      by_cases z5 : c < -1000000
      · have z2 : decide (c < -1000000) = true := decide_eq_true z5
        have Hno := Lib.hid (all_no hkT (smB_no1 (by rw [← hcv]; exact z5)))
        clear hcc a0 a1 t1 t2 t3 t4 t5 hxs hcv hxc hxd hxe hkT
        go_wp2_with fail
        go_ret
        exact ⟨ret_bool Hno.out.symm, hb.out.trans ((below_alloc _ _).mono hb.out.size)⟩
      by_cases z6 : 1000000 < c
      · have z2 : decide (c < -1000000) = false := decide_eq_false (by omega)
        have z3 : decide (1000000 < c) = true := decide_eq_true z6
        have Hno := Lib.hid (all_no hkT (smB_no2 (by rw [← hcv]; exact z6)))
        clear hcc a0 a1 t1 t2 t3 t4 t5 hxs hcv hxc hxd hxe hkT
        go_wp2_with fail
        go_ret
        exact ⟨ret_bool Hno.out.symm, hb.out.trans ((below_alloc _ _).mono hb.out.size)⟩
      have z2 : decide (c < -1000000) = false := decide_eq_false (by omega)
      have z3 : decide (1000000 < c) = false := decide_eq_false (by omega)
      have Hall := Lib.hid (all_snoc hkT hsm.out (smB_yes (by rw [← hcv]; exact z5) (by rw [← hcv]; exact z6)))
      clear hcc a0 a1 t1 t2 t3 t4 t5 hxs hcv hxc hxd hxe hkT
      go_wp2_with fail
      obtain ⟨w1, hw1⟩ : ∃ x : World, x = wo.alloc (.cells #[.slice (some ⟨ob, oo, none⟩) 7 kx, .int .i64 c] 63) := ⟨_, rfl⟩
      have hb1 : Below wo.heap.size wo w1 := by rw [hw1]; exact below_alloc _ _
      have hbx : w1.heap[wo.heap.size]? = some (.cells #[.slice (some ⟨ob, oo, none⟩) 7 kx, .int .i64 c] 63 (0, 0)) := by rw [hw1]; exact heap_alloc_top _ _
      rw [← hw1]
      have Hb1 := Lib.hid hb1
      have y0 : w1.cell? ⟨wo.heap.size, 0, none⟩ = some (.slice (some ⟨ob, oo, none⟩) 7 kx) := cell_of_blk hbx (j := 0) rfl
      have Hbw := Lib.hid (hb.out.trans (hb1.mono hb.out.size))
      clear hw1 hb1 hbx z1 z2 z3 z4 z5 z6 c0 c1
      go_loopg [39] 7 (fun g i wr => ∃ j : Nat, j ≤ 7 ∧ g = 7 - j ∧ i = .int .i64 j ∧ wr = w1)
      case atStart => exact ⟨0, by omega, rfl, rfl, rfl⟩
      case round =>
        obtain ⟨j, hj, rfl, rfl, rfl⟩ := hrel
        by_cases hlj : j < 7
        · have hji : (j : Int) < 7 := by omega
          have d1 := cell_below Hb1.out (Hxd.out j hlj)
          have r1 := Ht2.out j
          unfold iv at d1
          obtain ⟨x, hx⟩ : ∃ x, x = xs.getD j 0 := ⟨_, rfl⟩
          rw [← hx] at d1 r1
          have z1 : decide (x < 0) = false := decide_eq_false (by omega)
          have z2 : decide (24 < x) = false := decide_eq_false (by omega)
          have z3 : ¬ x < 0 := by omega
          have z4 : ¬ 24 < x := by omega
          clear hx
          go_wp2_with fail
          go_roundg (7 - (j + 1))
          case measure => omega
          case rel => exact ⟨j + 1, by omega, rfl, by go_num, rfl⟩
        · obtain rfl : j = 7 := by omega
          go_wp2_with fail
          have I2 : Ints wr (.slice (some ⟨ob, oo, none⟩) 7 kx) xs := by
            have := Hfk.out.below Hb1.out
            rw [Hhxe.out] at this
            exact this
          have HI2 := Lib.hid I2
          clear I2
          by_cases hk0 : k = 0
          · subst hk0
            have g1 : decide ((0 : Int) < ((0 : Nat) : Int)) = false := rfl
            go_quiet (fail)
            go_wp2_with fail
            go_roundg (N - (0 + 1))
            case measure => omega
            case rel => exact ⟨0 + 1, by omega, rfl, by go_num, Lib.hid (Below.drewN Hbw.out _), Hall⟩
          · obtain ⟨m, hm⟩ : ∃ m, m = k - 1 := ⟨_, rfl⟩
            have hmN : m < N := by omega
            have hmi : (m : Int) < (N : Int) := by omega
            have hm0 : (0 : Int) ≤ (m : Int) := by omega
            obtain ⟨_, e1, hcc⟩ := Hc.out (by omega)
            injection e1 with e1
            injection e1 with e1
            subst e1
            have q0 := cell_below Hbw.out (hcc m hmN).1
            have hfm := (Hf.out m hmN).below Hbw.out
            have hkm : k = m + 1 := by omega
            have hcmp := Hok.out.cmp (m := m) (by rw [← HN.out]; omega)
            have htm := Hok.out.at (show m < ts.length by rw [← HN.out]; exact hmN)
            rw [← hkm, ← Hxs.out] at hcmp
            obtain ⟨ys, hys⟩ : ∃ y, y = (ts.getD m clD).1 := ⟨_, rfl⟩
            unfold TmFit at htm
            rw [← hys] at hfm hcmp htm
            obtain ⟨t1, t2, _⟩ := htm
            obtain ⟨py, ky, hye, ⟨hy1, hy2⟩, hyc⟩ := hfm
            rw [t1] at hye
            have hI1 : Ints wr (.slice py 7 ky) ys := by
              have := (Hf.out m hmN).below Hbw.out
              rw [hye, ← hys] at this
              exact this
            rw [hye] at q0
            obtain ⟨cc, hcc0⟩ : ∃ c, c = cmpT ys xs := ⟨_, rfl⟩
            have hq : ∀ q, Calls Try.prog 63 #[.slice py 7 ky, .slice (some ⟨ob, oo, none⟩) 7 kx] (wr.drewN q) fun e w' => e = .returned (.int .i64 cc) ∧ Qt (wr.drewN q) w' := fun q => by
              rw [hcc0]
              exact byTerms_any _ _ ys xs _ (hI1.drewN q) (HI2.out.drewN q) t1 Ht1.out (fun j => by have := t2 j; omega) (fun j => by have := Ht2.out j; omega)
            have Hq := Lib.hid hq
            rw [← hcc0] at hcmp
            have g1 : decide (0 < k) = true := decide_eq_true (by omega)
            have g2 : (0 : Int) < (k : Int) := by omega
            have g3 : decide ((0 : Int) ≤ cc) = false := decide_eq_false (by omega)
            have g4 : ¬ (0 : Int) ≤ cc := by omega
            have Hkm := Lib.hid hkm
            have Hw := Lib.hid (show IntKind.i64.wrap ((k : Int) - 1) = (m : Int) by rw [k64 (by omega) (by omega)]; omega)
            clear hcc hq hcc0 hye hyc t1 t2 hI1 hm hk0 hkm hys
            have hw := Hw.out
            go_quiet (first | (go_at_call 63; refine quiet_q (Hq.out _)))
            clear hw
            go_wp2_with fail
            go_roundg (N - (k + 1))
            case measure => omega
            case rel => exact ⟨k + 1, by omega, rfl, by go_num, Lib.hid (Below.drewN Hbw.out _), Hall⟩
    · have hlti : ¬ (k : Int) < (N : Int) := by omega
      have hkN : ts.length ≤ k := by rw [← HN.out]; omega
      have Hall := Lib.hid (show ts.all smB = true by have := hsm.out; rw [List.take_of_length_le hkN] at this; exact this)
      clear hkN
      go_wp2_with fail
      go_ret
      exact ⟨ret_bool Hall.out.symm, hb.out⟩

end Go.Proofs.Ytllmhicmikpfeaa

namespace Go.Proofs.Ytllmhicmikpfeaa
set_option linter.all false
set_option maxRecDepth 100000
open Go.RowKit Go.Maps Go.WideMaps

theorem cg_eq2 {a b : Int} (h : Cg a b) (ha : (Lit.int .i64 a).wf = true) (hb : -4611686018427387904 ≤ b ∧ b ≤ 4611686018427387904) : a = b := by
  obtain ⟨m, rfl⟩ := h
  have := wf_rng ha
  unfold M64 at *
  omega

/-- what stands at a key is the polynomial's number there -/
theorem at_cf2 {w : World} {b n d : Nat} {D : DU} {P : Pl} (ho : OwnMp w b n D) (h : PolM d D P) (hd : d ≤ 1000000) (hco : ∀ e, -4611686018427387904 ≤ cfP P e ∧ cfP P e ≤ 4611686018427387904) {e : List Int} (he : K7 d e) (hh : has D (kl e) = true) {c : Int}
    (hat : D.atKey (kl e) (.lit (.int .i64 0)) = .lit (.int .i64 c)) : c = cfP P e ∧ c ≠ 0 := by
  have hw : (Lit.int .i64 c).wf = true := by
    obtain ⟨c', _, h2, h3⟩ := ho.lookup_int klaw und41 undI (zeroI _) (keyOf_kv he hd)
    rw [hat] at h2
    injection h2 with h2
    injection h2 with _ h2
    rw [h2]; exact h3
  refine ⟨cg_eq2 ?_ hw (hco e), fun e0 => h.nz _ hh (.lit (.int .i64 0)) (by rw [hat, e0])⟩
  have hs := h.sum (ind e)
  have h1 := SmD_del h.tidy (kl_lit e) (fun l => ind e (unkl l))
  rw [hat] at h1
  have h2 : SmD (D.del (kl e)) (fun l => ind e (unkl l)) = 0 := by
    obtain ⟨es, rfl, hpw⟩ := h.tidy
    refine SmL_zero _ fun p hp => ?_
    rw [List.mem_filter] at hp
    have hp1 : has (.map es) p.1 = true := by
      have hm := hm_of ho es rfl p hp.1
      exact List.any_eq_true.2 ⟨p, hp.1, WideAt.sameKey_self hm⟩
    obtain ⟨e', h1, h2⟩ := h.keys _ hp1
    rw [h1, unkl_kl h2 hd]
    unfold ind
    rw [if_neg fun e3 => ?_]
    have := hp.2
    rw [h1, e3, WideAt.sameKey_self (kl_lit e)] at this
    cases this
  rw [h1, h2] at hs
  simp only [coef, unkl_kl he hd] at hs
  have e1 : ind e e = 1 := by unfold ind; rw [if_pos rfl]
  rw [e1, Int.mul_one, Int.zero_add] at hs
  exact hs
theorem size_le2 {w : World} {b n d : Nat} {D : DU} {P : Pl} (ho : OwnMp w b n D) (h : PolM d D P) (hd : d ≤ 1000000) (hco : ∀ e, -4611686018427387904 ≤ cfP P e ∧ cfP P e ≤ 4611686018427387904) {S : List (List Int)} (hS : ∀ e, K7 d e → cfP P e ≠ 0 → e ∈ S) : Maps.size D ≤ S.length := by
  obtain ⟨es, rfl, hpw⟩ := h.tidy
  show es.length ≤ _
  have key : ∀ p ∈ es, ∃ e, p.1 = kl e ∧ K7 d e ∧ e ∈ S := fun p hp => by
    have hm := hm_of ho es rfl p hp
    have hh : has (.map es) p.1 = true := List.any_eq_true.2 ⟨p, hp, WideAt.sameKey_self hm⟩
    obtain ⟨e, h1, h2⟩ := h.keys _ hh
    obtain ⟨c, _, hc, _⟩ := ho.lookup_int klaw und41 undI (zeroI _) (keyOf_kv h2 hd)
    rw [h1] at hh
    obtain ⟨e1, e2⟩ := at_cf2 ho h hd hco h2 hh hc
    exact ⟨e, h1, h2, hS e h2 (by rw [← e1]; exact e2)⟩
  have := nodup_sub (es.map fun p => unkl p.1) S ?_ ?_
  · rwa [List.length_map] at this
  · refine List.pairwise_map.2 (hpw.imp_of_mem fun {p q} hp hq hne e => hne ?_)
    obtain ⟨e1, h1, h2, _⟩ := key p hp
    obtain ⟨e2, h3, h4, _⟩ := key q hq
    rw [h1, h3, unkl_kl h2 hd, unkl_kl h4 hd] at e
    rw [h1, h3, e]
  · intro x hx
    obtain ⟨p, hp, rfl⟩ := List.mem_map.1 hx
    obtain ⟨e, h1, h2, h3⟩ := key p hp
    rw [h1, unkl_kl h2 hd]
    exact h3

/-- all of it is gathered, and sorted -/
theorem Got.end2 {d : Nat} {P : Pl} {left : Lit → Bool} {A : List Cls} (h : Got d P left A) (hd : d ≤ 24) (hco : ∀ e, -4611686018427387904 ≤ cfP P e ∧ cfP P e ≤ 4611686018427387904) {S : List (List Int)} (hS : ∀ e, K7 d e → cfP P e ≠ 0 → e ∈ S) (h6 : S.length ≤ 600)
    (hg : ∀ g, Cg (Ev A g) (Ev P g)) : TsFit (srtT A) ∧ ∀ g, Ev (srtT A) g = Ev P g := by
  have hp := srtT_perm A
  refine ⟨⟨?_, fun t ht => ?_, srtT_asc h.nod⟩, fun g => ?_⟩
  · rw [hp.length_eq]
    have := nodup_sub (A.map (·.1)) S h.nod fun x hx => by
      obtain ⟨t, ht, rfl⟩ := List.mem_map.1 hx
      obtain ⟨h1, _, h3, h4⟩ := h.at_ t ht
      exact hS _ h1 (by rw [← h3]; exact h4)
    rw [List.length_map] at this
    omega
  · obtain ⟨h1, _, h3, h4⟩ := h.at_ t (hp.mem_iff.1 ht)
    refine ⟨h1.1, fun j => ?_, h4, by rw [h3]; exact (hco _).1, by rw [h3]; exact (hco _).2⟩
    by_cases hj : j < t.1.length
    · have := h1.2 (t.1.getD j 0) (by rw [List.getD_eq_getElem?_getD, List.getElem?_eq_getElem hj]; exact List.getElem_mem _)
      omega
    · rw [List.getD_eq_getElem?_getD, List.getElem?_eq_none (by omega)]; simp
  · rw [Ev_perm hp]
    refine Ev_of_cf (fun e => ?_) g
    by_cases hx : ∃ t ∈ A, t.1 = e
    · obtain ⟨t, ht, rfl⟩ := hx
      rw [cf_one h.nod ht]
      exact (h.at_ t ht).2.2.1
    · rw [cf_none fun t ht e2 => hx ⟨t, ht, e2⟩]
      have h1 := hg (ind e)
      have h2 : Ev A (ind e) = 0 := cf_none fun t ht e2 => hx ⟨t, ht, e2⟩
      rw [h2] at h1
      exact cg_eq2 h1 rfl (hco e)

theorem tsOk_of {ts : List Cls} (h : TsFit ts) (ha : ts.all smB = true) : TsOk ts := by
  obtain ⟨h1, h2, h3⟩ := h
  refine ⟨h1, fun t ht => ?_, h3⟩
  obtain ⟨q1, q2, q3, _⟩ := h2 t ht
  have := List.all_eq_true.1 ha t ht
  unfold smB at this
  rw [Bool.and_eq_true] at this
  exact ⟨q1, q2, q3, of_decide_eq_true this.1, of_decide_eq_true this.2⟩

set_option maxHeartbeats 8000000 in
theorem closed_yn (u : Value) (d n : Nat) (P : Pl) (w : World) (S : List (List Int)) (hf : PolV w u d n P) (hd : d ≤ 24) (hco : ∀ e, -4611686018427387904 ≤ cfP P e ∧ cfP P e ≤ 4611686018427387904) (hS : ∀ e, K7 d e → cfP P e ≠ 0 → e ∈ S) (h6 : S.length ≤ 600) :
    Calls Try.prog 36 #[u] w fun e w' => ∃ v b, e = .returned (.tuple #[v, .bool b]) ∧ (b = true → ∃ ts, OwnTd w' w.heap.size w'.heap.size v ts ∧ TsOk ts ∧ (∀ g, Ev ts g = Ev P g)) ∧ (b = false → ∃ e, ¬ (-1000000 ≤ cfP P e ∧ cfP P e ≤ 1000000)) ∧ (∃ p n c, v = .slice p n c) ∧ Below w.heap.size w w' := by
  obtain ⟨bf, Df, rfl, hf1, hf2⟩ := hf
  have hblf := hf1.lt
  have HF1 := Lib.hid hf1
  have HF2 := Lib.hid hf2
  have Hco := Lib.hid hco
  have HS := Lib.hid hS
  have hsz := size_le2 hf1 hf2 (by omega) hco hS
  have hz6 : Maps.size Df ≤ 600 := by omega
  have e1 : ¬ (600 : Int) < (Maps.size Df : Int) := by omega
  have e2 : decide ((600 : Int) < (Maps.size Df : Int)) = false := decide_eq_false e1
  have hG0 := Lib.hid (Gath.start (T := fun g => g) hf1 hf2)
  obtain ⟨B, hB⟩ : ∃ B, B = w.heap.size := ⟨_, rfl⟩
  have HB := Lib.hid hB
  have es1 : (w.alloc (.cells #[] 63)).heap.size = w.heap.size + 1 := by simp
  clear hf2 hco hS hsz hf1
  go_enter Try.func36, Try.ntmps36
  go_wp2_with (first
    | (at_len; refine wpList_len_own _ rfl _ 52 rfl 72 3 und41 _ bf n _ rfl HF1.out ?_)
    | (at_range; refine wpList_range_own _ rfl _ 52 rfl 72 3 klaw und41 _ bf n _ rfl (HF1.out.alloc _) ?_; intro w0 hrg0 hg0 hs0)
    | fail)
  rw [es1] at hrg0 hs0
  have hbel0 : Below w.heap.size w w0 := ((Below.refl _ _).alloc (Nat.le_refl _) _).grown hg0 (by simp) (fun j hj => by cases hj)
  have hown0 : OwnTd w0 w.heap.size (w.heap.size + 1) (.slice (some ⟨w.heap.size, 0, none⟩) 0 0) [] := (OwnTd.made0 w).keep fun k _ _ h3 => hg0.block k h3 (by simp)
  rw [← hB] at hrg0 hs0 hbel0 hown0 hblf ⊢
  have Hbel0 := Lib.hid hbel0
  have Hown0 := Lib.hid hown0
  clear hbel0 hown0 hg0 es1 hB e1 e2
  go_loopg [4, 5, 6] (Maps.size Df) (fun g s4 s5 s6 wr => ∃ (left : Lit → Bool) (A : List Cls), RanP wr bf (B + 1) n Df left g ∧ g ≤ Maps.size Df ∧ A.length + g ≤ Maps.size Df ∧ (∀ l, left l = true → has Df l = true) ∧
      Hid (OwnTd wr B wr.heap.size s4 A) ∧ Hid (Got d P left A) ∧ Hid (Gath Df P (fun g => g) left A) ∧ Hid (Below B w wr) ∧ B + 2 ≤ wr.heap.size)
  case atStart => exact ⟨_, [], hrg0, Nat.le_refl _, by simp, fun _ h => h, Lib.hid (Hown0.out.mono (Nat.le_refl _) (by omega)), Lib.hid (Got.nil _ _ _), hG0, Hbel0, by omega⟩
  case round =>
    obtain ⟨left, A, hrg, hgs, hal, hleft, hO, hgot, hga, hbel, hsz2⟩ := hrel
    obtain ⟨wx, rfl⟩ : ∃ x : World, x = wr := ⟨_, rfl⟩
    obtain ⟨p4, k4, rfl, _, _⟩ := hO.out.shape
    go_wp2_with (first
      | (at_next; refine wpList_next_poly _ rfl _ rfl bf (B + 1) n d Df P left gk rfl hrg HF2.out (by omega) hleft ?_ ?_)
      | fail)
    · intro hc0 hl0
      have hend := hgot.out.end2 hd Hco.out HS.out h6 (hga.out.end hl0)
      have Hend := Lib.hid hend
      have hnd := hgot.out.nod
      have hm7 : ∀ t ∈ A, t.1.length = 7 ∧ ∀ j, 0 ≤ t.1.getD j 0 ∧ t.1.getD j 0 ≤ 1000000 := fun t ht => by
        have := hend.1.2.1 t ((srtT_perm A).mem_iff.2 ht)
        exact ⟨this.1, fun j => by have := this.2.1 j; omega⟩
      have Hsf := Lib.hid (sortFT_any (.slice p4 A.length k4) A B wx.heap.size wx hO.out (by omega) hnd hm7)
      have hgot2 := hgot.out
      clear hend hnd hm7 hrg hleft hO hgot hga
      go_wp2_with fail
      refine Hsf.out.mono ?_
      rintro e w2 ⟨rfl, ho2, hf2⟩
      have Ho2 := Lib.hid ho2
      have Hf2 := Lib.hid hf2
      clear ho2 hf2
      go_wp2_with fail
      have Hcf := Lib.hid (fun t (ht : t ∈ srtT A) => show t.2 = cfP P t.1 from (hgot2.at_ t ((srtT_perm A).mem_iff.1 ht)).2.2.1)
      clear hgot2
      refine (PolyOk_yn (.slice p4 A.length k4) (srtT A) _ Ho2.out.rd Hend.out.1).mono ?_
      rintro e w3 ⟨rfl, hb3⟩
      have hs2 := Hf2.out.size
      have hs3 := hb3.size
      have Ho3 := Lib.hid ((Ho2.out.below hb3).mono (Nat.le_refl _) (show wx.heap.size ≤ w3.heap.size by omega))
      have Hb3 := Lib.hid ((hbel.out.trans (Hf2.out.below (Nat.le_refl _) (by omega))).trans (hb3.mono (by omega)))
      clear hb3
      cases hall : (srtT A).all smB with
      | true =>
        have Hall := Lib.hid hall
        clear hall
        go_wp2_with fail
        go_ret2
        refine ⟨_, true, rfl, fun _ => ⟨srtT A, HB.out ▸ Ho3.out, tsOk_of Hend.out.1 Hall.out, Hend.out.2⟩, (fun h => by cases h), ⟨_, _, _, rfl⟩, HB.out ▸ Hb3.out⟩
      | false =>
        have Hall := Lib.hid hall
        clear hall
        go_wp2_with fail
        go_ret2
        refine ⟨_, false, rfl, (fun h => by cases h), fun _ => ?_, ⟨_, _, _, rfl⟩, HB.out ▸ Hb3.out⟩
        obtain ⟨t, ht, hs⟩ := List.all_eq_false.1 Hall.out
        refine ⟨t.1, fun hc => hs ?_⟩
        rw [← Hcf.out t ht] at hc
        unfold smB
        rw [decide_eq_true hc.1, decide_eq_true hc.2]; rfl
    · intro a0 a1 a2 a3 a4 a5 a6 c w1 cnt1 hK hlx hwf hat hrg1 hlt hgr1 hs1 hen
      have hit : ∃ x1 x2 x3, wx.heap[B + 1]? = some (.mapIter (some bf) x1 x2 x3) := by
        obtain ⟨_, _, x1, x2, x3, _, _, _, _, h5, _⟩ := hrg
        exact ⟨x1, x2, x3, h5⟩
      obtain ⟨x1, x2, x3, hit⟩ := hit
      have HO1 := Lib.hid (hO.out.keepIt hit hgr1)
      have Hbel1 := Lib.hid (hbel.out.grown hgr1 (by omega) (fun j hj => by cases hj; omega))
      have hc := at_cf2 HF1.out HF2.out (by omega) Hco.out hK (hleft _ hlx) hat
      have Hgot := Lib.hid (hgot.out.snoc (by omega) hK hlx hc)
      have Hga := Lib.hid (hga.out.step HF2.out.tidy hK (by omega) hlx hat (A' := A ++ [([a0, a1, a2, a3, a4, a5, a6], c)]) fun g => by
        rw [Ev_append]
        exact Cg.of _ _ (by simp [Ev]))
      rw [← hs1] at HO1
      have hal2 : A.length + 1 + cnt1 ≤ Maps.size Df := by omega
      have hsz3 : B + 2 ≤ w1.heap.size := by omega
      have Hleft := Lib.hid hleft
      clear hit hc hat hgr1 hrg hO hgot hga hbel hleft hs1
      go_wp2_with fail
      have hI : Ints (w1.alloc (.cells #[.int .i64 a0, .int .i64 a1, .int .i64 a2, .int .i64 a3, .int .i64 a4, .int .i64 a5, .int .i64 a6] 72)) (.slice (some ⟨w1.heap.size, 0, none⟩) 7 7) [a0, a1, a2, a3, a4, a5, a6] :=
        ⟨some ⟨w1.heap.size, 0, none⟩, 7, rfl, ⟨Nat.le_refl _, by unfold maxLen; omega⟩, fun _ => ⟨w1.heap.size, 0, rfl, fun j hj => match j, hj with
          | 0, _ => cell_of_blk (heap_alloc_top _ _) (j := 0) rfl
          | 1, _ => cell_of_blk (heap_alloc_top _ _) (j := 1) rfl
          | 2, _ => cell_of_blk (heap_alloc_top _ _) (j := 2) rfl
          | 3, _ => cell_of_blk (heap_alloc_top _ _) (j := 3) rfl
          | 4, _ => cell_of_blk (heap_alloc_top _ _) (j := 4) rfl
          | 5, _ => cell_of_blk (heap_alloc_top _ _) (j := 5) rfl
          | 6, _ => cell_of_blk (heap_alloc_top _ _) (j := 6) rfl⟩⟩
      refine (clone_any _ [a0, a1, a2, a3, a4, a5, a6] _ hI (by simp)).mono ?_
      clear hI
      rintro e w2 ⟨u2, rfl, ho2, hb2⟩
      obtain ⟨xs, hxs⟩ : ∃ x, x = [a0, a1, a2, a3, a4, a5, a6] := ⟨_, rfl⟩
      obtain ⟨p2, k2, e2, _, _⟩ := ho2.shape
      have e3 : u2 = .slice p2 7 k2 := e2
      subst e3
      rw [← hxs] at ho2 Hgot Hga
      rw [← hxs] at hrg1
      have hsa : (w1.alloc (.cells #[.int .i64 a0, .int .i64 a1, .int .i64 a2, .int .i64 a3, .int .i64 a4, .int .i64 a5, .int .i64 a6] 72)).heap.size = w1.heap.size + 1 := size_alloc _ _
      have hb12 : Below w1.heap.size w1 w2 := (below_alloc _ _).trans (hb2.mono (by rw [hsa]; omega))
      have hs2 : w1.heap.size + 1 ≤ w2.heap.size := by have := hb2.size; rw [hsa] at this; exact this
      rw [hsa] at ho2
      have hO2 := HO1.out.below hb12
      obtain ⟨f, g1, g2, g3⟩ := hO2
      have hal : Below w2.heap.size w2 (w2.alloc (.cells #[.slice p2 7 k2, .int .i64 c] 63)) := below_alloc w2 _
      have g1a := Lib.hid (g1.below hal)
      have g2a := Lib.hid (show ∀ i, i < A.length → OwnI 3 (w2.alloc (.cells #[.slice p2 7 k2, .int .i64 c] 63)) B w1.heap.size (f i) (A.getD i clD).1 from fun i hi => (g2 i hi).below hal)
      have G3 := Lib.hid g3
      have Hxt := Lib.hid (ho2.below hal)
      have Hcl := Lib.hid (show ∀ j, j < 2 → (w2.alloc (.cells #[.slice p2 7 k2, .int .i64 c] 63)).cell? ⟨w2.heap.size, j, none⟩ = some (match j with | 0 => .slice p2 7 k2 | _ => .int .i64 c) from fun j hj =>
        match j, hj with
        | 0, _ => cell_of_blk (heap_alloc_top w2 _) (j := 0) rfl
        | 1, _ => cell_of_blk (heap_alloc_top w2 _) (j := 1) rfl)
      have Hone := Lib.hid (show ∀ j, j < 2 → (match j with | 0 => Value.slice p2 7 k2 | _ => .int .i64 c).oneCell' = true from fun j hj =>
        match j, hj with
        | 0, _ => rfl
        | 1, _ => rfl)
      have Hn1 := Lib.hid (show A.length + 1 ≤ maxLen by unfold maxLen; omega)
      have Hn2 := Lib.hid (show (A.length + 1) * 32 ≤ 140737488355328 by omega)
      have Hlo := Lib.hid (show B ≤ (w2.alloc (.cells #[.slice p2 7 k2, .int .i64 c] 63)).heap.size by rw [size_alloc]; omega)
      have Hhi := Lib.hid (show w1.heap.size ≤ (w2.alloc (.cells #[.slice p2 7 k2, .int .i64 c] 63)).heap.size by rw [size_alloc]; omega)
      have Hb12 := Lib.hid hb12
      have Hrg := Lib.hid hrg1
      have Hhal := Lib.hid hal
      have Hxs := Lib.hid hxs
      clear g1 g2 g3 ho2 hb2 hb12 hsa hal hrg1 hen hxs hK hlx hwf
      go_wp2_with (at_builtin; go_must (refine wpList_append_S rfl (.tmp 18) (.tmp 23) 29 rfl 63 _ 2 32 Try.underlying29 info_tm rfl (by omega) B w1.heap.size _ A.length (clF A f) rfl g1a.out Hlo.out _ _ _ rfl Hcl.out Hone.out Hn1.out Hn2.out ?_; intro v' w' hv hg))
      have hg' : (w2.alloc (.cells #[.slice p2 7 k2, .int .i64 c] 63)).grownBy w' (Value.slice p4 A.length k4).ownBlock := hg
      clear hg
      have hO' := OwnTd.snoc (m := (xs, c)) (hi := w2.heap.size) g1a.out g2a.out G3.out (OwnI.mono Hxt.out (by omega : w1.heap.size ≤ w1.heap.size + 1) (Nat.le_refl _)) (by omega) (by omega) hg' (by have := hg'.size; rw [size_alloc] at this; omega) hv
      have hbw : Below B w w' := (Hbel1.out.trans (Hb12.out.mono (by omega))).trans ((Hhal.out.mono (by omega)).trans (grownBy_below hg' g1a.out.blocks (Nat.le_refl _) Hlo.out))
      have hr1 : RanP w2 bf (B + 1) n Df (fun z => left z && !z.sameKey (kl xs)) cnt1 := Hrg.out.kept (bel_grown Hb12.out none) (by simp) (by simp)
      have hr2 := hr1.alloc (.cells #[.slice p2 7 k2, .int .i64 c] 63)
      have hr3 : RanP w' bf (B + 1) n Df (fun z => left z && !z.sameKey (kl xs)) cnt1 := hr2.kept hg' (fun e => by have := (g1a.out.blocks _ e.symm).1; omega) (fun e => by
        obtain ⟨_, _, _, _, _, _, _, _, _, h5, _⟩ := hr2
        obtain ⟨c1, fz, hk⟩ := g1a.out.kind _ e.symm
        rw [hk] at h5
        cases h5)
      have hsz4 : B + 2 ≤ w'.heap.size := by have := hg'.size; rw [size_alloc] at this; omega
      have HO' := Lib.hid hO'
      have Hbw := Lib.hid hbw
      have Hr3 := Lib.hid hr3
      clear hO' hbw hr1 hr2 hr3 hv hg'
      go_roundg cnt1
      case measure => exact hlt
      case rel => exact ⟨_, A ++ [(xs, c)], Hr3.out, by omega, by rw [List.length_append, List.length_singleton]; omega, (fun l h => Hleft.out l (by rw [Bool.and_eq_true] at h; exact h.1)), HO'.out, Hgot.out, Hga.out, Hbw.out, hsz4⟩

end Go.Proofs.Ytllmhicmikpfeaa

namespace Go.Proofs.Ytllmhicmikpfeaa
set_option linter.all false
set_option maxRecDepth 100000
open Go.RowKit

theorem keep2b {B : Nat} {A W W' : World} {a1 a2 : Addr} {x1 x2 : Value} (hb : Below B W W') (h1 : a1.block < B) (h2 : a2.block < B)
    (h : (W.cell? a1 = some x1 ∧ W.cell? a2 = some x2) ∧ Below B A W) : (W'.cell? a1 = some x1 ∧ W'.cell? a2 = some x2) ∧ Below B A W' :=
  ⟨⟨by rw [hb.cell h1]; exact h.1.1, by rw [hb.cell h2]; exact h.1.2⟩, h.2.trans hb⟩
theorem keep2c {B : Nat} {A W W' : World} {a1 a2 : Addr} {x1 x2 : Value} (hB : B ≤ A.heap.size) (hb : Below W.heap.size W W') (h1 : a1.block < B) (h2 : a2.block < B)
    (h : (W.cell? a1 = some x1 ∧ W.cell? a2 = some x2) ∧ Below B A W) : (W'.cell? a1 = some x1 ∧ W'.cell? a2 = some x2) ∧ Below B A W' :=
  keep2b (hb.mono (Nat.le_trans hB h.2.size)) h1 h2 h

set_option maxHeartbeats 8000000 in
theorem l2Shut_any (v : Value) (P : Pl) (w : World) (h : RdMn w v (msOf P)) (hb : BxP stB P) (hc : L1P P ≤ 1000000000000000000) :
    Calls Try.prog 38 #[v] w fun e w' => ∃ (u : Value) (b : Bool), e = .returned (.tuple #[u, .bool b]) ∧ (b = true → PkD P) ∧ Below w.heap.size w w' := by
  have H := Lib.hid h
  have Hb := Lib.hid hb
  have H1 := Lib.hid hc
  obtain ⟨p, kp, rfl, hk1, hk2⟩ := h.sh
  rw [msOf_length] at H hk1 ⊢
  obtain ⟨L, hL⟩ : ∃ n, n = P.length := ⟨_, rfl⟩
  rw [← hL] at H hk1 ⊢
  have HL := Lib.hid hL
  unfold maxLen at hk2
  clear h hb hc hL
  go_enter Try.func38, Try.ntmps38
  by_cases h6 : 600 < L
  · have h6i : (600 : Int) < (L : Int) := by omega
    go_wp2_with fail
    go_ret2
    exact ⟨_, false, rfl, (fun h => by cases h), Below.refl _ _⟩
  · have h6i : ¬ ((600 : Int) < (L : Int)) := by omega
    have Hm0 := Lib.hid (OwnTd.made0 w)
    go_wp2_with fail
    go_loopg [4, 5] L (fun g s4 s5 wz => ∃ (k : Nat), k ≤ L ∧ g = L - k ∧ s5 = .int .i64 (k : Int) ∧ Hid (OwnTd wz w.heap.size wz.heap.size s4 (P.take k)) ∧ Hid (Below w.heap.size w wz))
    case atStart => exact ⟨0, Nat.zero_le _, rfl, rfl, by have := Hm0.out; rw [← size_alloc] at this; exact this, below_alloc _ _⟩
    case round =>
      obtain ⟨k, hk, rfl, rfl, ho, hbz⟩ := hrel
      obtain ⟨wz, rfl⟩ : ∃ x : World, x = wr := ⟨_, rfl⟩
      have hsz := hbz.out.size
      by_cases hkl : k < L
      · have hkI : (k : Int) < (L : Int) := by omega
        have hkP : k < P.length := by rw [← HL.out]; exact hkl
        obtain ⟨g0, rfl⟩ := H.out.ptr (by rw [msOf_length]; omega)
        obtain ⟨c1, c2⟩ := cell_rd H.out hkP
        have hg0 : g0 < w.heap.size := World.block_lt_of_cell? w _ c1
        have c1 := cell_below hbz.out c1
        have c2 := cell_below hbz.out c2
        have Hsn := Lib.hid (takeT_snoc hkP)
        have hee := Hb.out _ (getD_tm hkP)
        obtain ⟨t, htt⟩ : ∃ t, t = P.getD k tmD := ⟨_, rfl⟩
        rw [← htt] at c1 c2 Hsn hee
        obtain ⟨e, c⟩ := t
        dsimp only at c1 c2 Hsn hee
        obtain ⟨K, hK⟩ : ∃ K, K = keyN e := ⟨_, rfl⟩
        rw [← hK] at c1
        have HEx := Lib.hid (fun W => show Calls Try.prog 64 #[.int .i64 K] W fun x w' => ∃ u, x = .returned u ∧ OwnI 3 w' W.heap.size w'.heap.size u e ∧ Below W.heap.size W w' by rw [hK]; exact l2Exp_any e W (hee.mono fun k _ => by unfold stB B127; omega))
        have He7 := Lib.hid hee.1
        have hlen : (P.take k).length = k := by rw [List.length_take, ← HL.out]; omega
        obtain ⟨f, g1, g2, g3⟩ := ho.out
        have Hlen := Lib.hid hlen
        have G1 := Lib.hid g1
        have G2 := Lib.hid g2
        have G3 := Lib.hid g3
        obtain ⟨p4, k4, rfl, _, _⟩ := ho.out.shape
        rw [hlen] at G1 ⊢
        have Hn1 := Lib.hid (show k + 1 ≤ maxLen by unfold maxLen; omega)
        have Hn2 := Lib.hid (show (k + 1) * 32 ≤ 140737488355328 by omega)
        clear htt hee hK hlen g1 g2 g3 ho
        go_wp2_with fail
        go_region_held3 (fun w' => (w'.cell? ⟨g0, k * 2, none⟩ = some (.int .i64 K) ∧ w'.cell? ⟨g0, k * 2 + 1, none⟩ = some (.int .i64 c)) ∧ Below w.heap.size wz w')
          (first | with_reducible assumption | exact ⟨⟨c1, c2⟩, (Below.refl _ _).drew⟩ | exact keep2c hsz hk2' hg0 hg0 (by assumption) | exact keep2c hsz (below_alloc _ _) hg0 hg0 (by assumption) | exact keep2b hb6 hg0 hg0 (by assumption))
          (first
            | (go_at_call 64; refine (HEx.out _).mono ?_; rintro e1 w2 ⟨u2, rfl, hu2, hk2'⟩; have hb2 : Below wz.heap.size wz w2 := (Below.refl _ _).drew.trans hk2'; have hu2 : OwnI 3 w2 wz.heap.size w2.heap.size u2 e := hu2; have hs2 := hb2.size; obtain ⟨p2, k2, rfl, _, _⟩ := hu2.shape; rw [He7.out] at hu2 ⊢; have Hu2 := Lib.hid hu2; have Hb2 := Lib.hid hb2; clear hu2)
            | (refine step_append_S rfl (.tmp 16) (.tmp 29) 29 rfl 63 _ 2 32 Try.underlying29 info_tm rfl (by omega) w.heap.size wz.heap.size _ k (clF (P.take k) f) rfl (G1.out.below (Hb2.out.trans ((below_alloc w2 _).mono hs2))) (by rw [size_alloc]; exact Nat.le_succ_of_le (Nat.le_trans hsz hs2)) _ _ (fun j => match j with | 0 => .slice p2 7 k2 | _ => .int .i64 c) rfl (fun j hj => match j, hj with | 0, _ => cell_of_blk (heap_alloc_top w2 _) (j := 0) rfl | 1, _ => cell_of_blk (heap_alloc_top w2 _) (j := 1) rfl) (fun j hj => match j, hj with | 0, _ => rfl | 1, _ => rfl) Hn1.out Hn2.out ?_; intro v' w' hv hg; have hb6 := grownBy_below hg G1.out.blocks (Nat.le_refl _) (by rw [size_alloc]; exact Nat.le_succ_of_le (Nat.le_trans hsz hs2))))
        have Hv := Lib.hid hv
        have Hg := Lib.hid hg
        have Hs2 := Lib.hid hs2
        clear hv hg hb6 hk2'
        go_wp2_with fail
        go_roundg (L - (k + 1))
        case measure => omega
        case rel =>
          have hal := below_alloc w2 (.cells #[.slice p2 7 k2, .int .i64 c] 63)
          have hW := Hb2.out.trans (hal.mono Hs2.out)
          have h1 := Hs2.out
          have h2 := Hg.out.size
          rw [size_alloc] at h2
          have h3 := OwnTd.snoc (w := w2.alloc (.cells #[.slice p2 7 k2, .int .i64 c] 63)) (w' := w') (lo := w.heap.size) (hi := w2.heap.size) (mid := wz.heap.size) (v := .slice p4 k k4) (v' := v') (x := .slice p2 7 k2) (m := (e, c)) (cs := P.take k) (f := f)
            (by rw [Hlen.out]; exact G1.out.below hW) (fun i hi => (G2.out i hi).below hW) G3.out (OwnI.below Hu2.out hal) hsz h1 Hg.out (by omega) (by rw [Hlen.out]; exact Hv.out)
          refine ⟨k + 1, by omega, rfl, by go_num, ?_, hbz.out.trans ((hW.mono hsz).trans (grownBy_below Hg.out G1.out.blocks (Nat.le_refl _) (by rw [size_alloc]; omega)))⟩
          show OwnTd _ _ _ _ _
          rw [Hsn.out]
          exact h3
      · have hkn : ¬ ((k : Int) < (L : Int)) := by omega
        have ho2 := ho.out.rd
        rw [List.take_of_length_le (by rw [← HL.out]; omega)] at ho2
        obtain ⟨p4, k4, rfl, _, _⟩ := ho.out.shape
        have hlen2 : (P.take k).length = L := by rw [List.length_take, ← HL.out]; omega
        rw [hlen2] at ho2 ⊢
        have HPk := Lib.hid (specPolyOk_any _ P wz ho2 Hb.out (by rw [← HL.out]; omega) (fun t ht => by have := Nat.le_trans (L1P_mem ht) H1.out; omega))
        clear ho2 ho hlen2
        go_wp2_with fail
        refine HPk.out.mono ?_
        rintro e w3 ⟨b, rfl, hPk, hb3⟩
        have HPd := Lib.hid hPk
        have Hb3 := Lib.hid (hbz.out.trans (hb3.mono hsz))
        clear hPk hb3
        cases b with
        | true =>
          go_wp2_with fail
          go_ret2
          exact ⟨_, true, rfl, (fun _ => HPd.out (by first | rfl | trivial)), Hb3.out⟩
        | false =>
          go_wp2_with fail
          go_ret2
          exact ⟨_, false, rfl, (fun h => by cases h), Hb3.out⟩

end Go.Proofs.Ytllmhicmikpfeaa

namespace Go.Proofs.Ytllmhicmikpfeaa
set_option linter.all false
open Go.RowKit

end Go.Proofs.Ytllmhicmikpfeaa

namespace Go.Proofs.Ytllmhicmikpfeaa
set_option linter.all false
open Go.RowKit

set_option maxRecDepth 100000 in
set_option maxHeartbeats 2000000 in
theorem shiftsOk_any (N : Int) (v : Value) (y : List Int) (w : World) (h : Ints w v y) :
    Calls Try.prog 30 #[v, .int .i64 N] w fun e w' => e = .returned (.bool (shiftB N y)) ∧ w = w' := by
  obtain ⟨p, cap, rfl, ⟨hx1, hx⟩, hxc⟩ := h
  unfold maxLen at hx
  go_enter Try.func30, Try.ntmps30
  go_wp2_with fail
  go_loopg [6, 9] y.length (fun g s6 s9 wr => ∃ k : Nat, k ≤ y.length ∧ g = y.length - k ∧ s9 = .int .i64 k ∧ w = wr ∧ Hid (∀ j, j < k → -9 ≤ y.getD j 0 ∧ y.getD j 0 ≤ 9))
  case atStart => exact ⟨0, Nat.zero_le _, rfl, rfl, rfl, Lib.hid fun j hj => absurd hj (Nat.not_lt_zero _)⟩
  case round =>
    obtain ⟨k, hk, rfl, rfl, rfl, hp⟩ := hrel
    by_cases hlt : k < y.length
    · obtain ⟨b, off, rfl, hc⟩ := hxc (by omega)
      obtain ⟨x, hx'⟩ : ∃ x, x = y.getD k 0 := ⟨_, rfl⟩
      have c1 := hc k hlt
      unfold iv at c1
      rw [← hx'] at c1
      have Hx := Lib.hid hx'
      have hk1 : (k : Int) < (y.length : Int) := by omega
      clear hx' hc hxc
      have bad : ¬ (-9 ≤ x ∧ x ≤ 9) → shiftB N y = false := fun hr => by
        unfold shiftB
        rw [decide_eq_false (show ¬ ∀ x ∈ y, -9 ≤ x ∧ x ≤ 9 from fun e => hr (by rw [Hx.out]; exact e _ (getD_mem hlt))), Bool.and_false]
      have Bad := Lib.hid bad
      clear bad
      by_cases h1 : x < -9
      · go_wp2_with fail
        go_ret
        exact ⟨ret_bool (Bad.out (by omega)).symm, rfl⟩
      by_cases h2 : 9 < x
      · go_wp2_with fail
        go_ret
        exact ⟨ret_bool (Bad.out (by omega)).symm, rfl⟩
      go_wp2_with fail
      go_roundg (y.length - (k + 1))
      case measure => omega
      case rel =>
        refine ⟨k + 1, by omega, rfl, by go_num, rfl, Lib.hid fun j hj => ?_⟩
        by_cases e : j = k
        · subst e; rw [← Hx.out]; omega
        · exact hp.out j (by omega)
    · have hk1 : ¬ (k : Int) < (y.length : Int) := by omega
      have ha : decide (∀ x ∈ y, -9 ≤ x ∧ x ≤ 9) = true := decide_eq_true (all_of_getD fun j hj => hp.out j (by omega))
      have Ha := Lib.hid ha
      clear ha
      by_cases hN : (y.length : Int) = N
      · go_wp2_with fail
        go_ret
        exact ⟨ret_bool (by unfold shiftB; rw [Ha.out, decide_eq_true hN]; rfl), rfl⟩
      · go_wp2_with fail
        go_ret
        exact ⟨ret_bool (by unfold shiftB; simp [hN]), rfl⟩

theorem nm_shift {N : Int} {y : List Int} (h1 : 1 ≤ N) (h2 : N ≤ 5) : nmOk N y = shiftB N y := by
  unfold nmOk shiftB
  rw [decide_eq_true h1, decide_eq_true h2]; simp

end Go.Proofs.Ytllmhicmikpfeaa

namespace Go.Proofs.Ytllmhicmikpfeaa
set_option linter.all false
set_option maxRecDepth 100000
open Go.RowKit Go.Maps Go.WideMaps

theorem nine_of {ys : List Int} (hb : ∀ x ∈ ys, -9 ≤ x ∧ x ≤ 9) (j : Nat) : (ys.getD j 0).natAbs ≤ 9 := by
  by_cases hj : j < ys.length
  · have := hb (ys.getD j 0) (by rw [List.getD_eq_getElem?_getD, List.getElem?_eq_getElem hj]; exact List.getElem_mem hj)
    omega
  · rw [List.getD_eq_getElem?_getD, List.getElem?_eq_none (by omega)]; simp
theorem specDouble_any (n : Nat) (v u : Value) (xs ys : List Int) (w : World) (h : Ints w v xs) (hy : Ints w u ys) (hp : P5 n xs) (h1 : 1 ≤ n) (hyl : ys.length = n) (hb : ∀ x ∈ ys, -9 ≤ x ∧ x ≤ 9) :
    Calls Try.prog 10 #[v, u] w fun e w' => ∃ (r : Value) (b : Bool), e = .returned (.tuple #[r, .bool b]) ∧ (b = true → ∀ e, -1000000 ≤ cfP (dblP xs ys) e ∧ cfP (dblP xs ys) e ≤ 1000000) ∧ Below w.heap.size w w' := by
  have Hx := Lib.hid h
  have Hy := Lib.hid hy
  have Hp := Lib.hid hp
  have Hyl := Lib.hid hyl
  have Hb := Lib.hid hb
  have h5 := hp.le
  have hxl := hp.len
  obtain ⟨p, cap, rfl, _, _⟩ := h
  obtain ⟨q, cap2, rfl, ⟨hq1, hq2⟩, hyc⟩ := hy
  rw [hxl] at Hx ⊢
  rw [hyl] at hyc Hy hq1 ⊢
  have Hyc := Lib.hid hyc
  have hn5 : ¬ ((5 : Int) < (n : Int)) := by omega
  have hn6 : ((n : Int) != (n : Int)) = false := by simp
  clear hp hxl hyl hb hyc
  go_enter Try.func10, Try.ntmps10
  go_wp2_with fail
  have hSh : Calls Try.prog 37 #[.slice p n cap, .slice q n cap2] w fun e w' => e = .returned (.bool true) ∧ Qt w w' := by
    go_enter Try.func37, Try.ntmps37
    go_wp2_with fail
    refine (specIsPerm_any _ xs w Hx.out).mono ?_
    rintro e w1 ⟨rfl, hq⟩
    rw [Hp.out.ok]
    have Hq := Lib.hid hq
    clear hq
    go_wp2_with fail
    go_loopg [5] n (fun g s5 wr => ∃ k : Nat, k ≤ n ∧ g = n - k ∧ s5 = .int .i64 (k : Int) ∧ Hid (Qt w wr))
    case atStart => exact ⟨0, Nat.zero_le _, rfl, rfl, Hq.out⟩
    case round =>
      obtain ⟨k, hk, rfl, rfl, hqr⟩ := hrel
      by_cases hkl : k < n
      · have hki : (k : Int) < (n : Int) := by omega
        obtain ⟨bq, oq, rfl, hcc⟩ := Hyc.out (by omega)
        have c1 := hqr.out.cell (hcc k hkl)
        unfold iv at c1
        have hr := Hb.out (ys.getD k 0) (by rw [List.getD_eq_getElem?_getD, List.getElem?_eq_getElem (by rw [Hyl.out]; exact hkl)]; exact List.getElem_mem _)
        obtain ⟨x, hx⟩ : ∃ x, x = ys.getD k 0 := ⟨_, rfl⟩
        rw [← hx] at c1 hr
        have HI := Lib.hid (l1In_b x (-9) 9 wr true (decide_eq_true hr))
        clear hcc hx hr
        go_wp2_with fail
        refine HI.out.mono ?_
        rintro e w2 ⟨rfl, rfl⟩
        go_wp2_with fail
        go_roundg (n - (k + 1))
        case measure => omega
        case rel => exact ⟨k + 1, by omega, rfl, by go_num, hqr.out⟩
      · have hkn : ¬ ((k : Int) < (n : Int)) := by omega
        go_wp2_with fail
        go_ret
        exact ⟨rfl, hqr.out⟩
  refine hSh.mono ?_
  clear hSh
  rintro e w1 ⟨rfl, hq1'⟩
  have HB1 := Lib.hid (hq1'.below w.heap.size)
  have HD := Lib.hid (l3Double_any n (.slice p n cap) (.slice q n cap2) xs ys w1 (Hx.out.below (hq1'.below _)) (Hy.out.below (hq1'.below _)) Hp.out h1 Hyl.out (nine_of Hb.out))
  clear hq1'
  go_wp2_with fail
  refine HD.out.mono ?_
  rintro e w2 ⟨r, f, m, rfl, hm, hS, hf, hb2⟩
  have HS := Lib.hid hS
  have HB2 := Lib.hid (HB1.out.trans (hb2.mono HB1.out.size))
  have h410 : (4 : Nat) ^ m ≤ 1048576 := Nat.le_trans (Nat.pow_le_pow_right (by omega) hm) (by decide)
  have HSh := Lib.hid (l2Shut_any r f w2 hf hS.box (Nat.le_trans hS.l1 (by omega)))
  obtain ⟨p5, k5, rfl, _, _⟩ := hf.sh
  rw [msOf_length] at HSh ⊢
  clear hS hf hb2 h410
  go_wp2_with fail
  refine HSh.out.mono ?_
  rintro e w3 ⟨u3, b, rfl, hPd, hb3⟩
  have HPd := Lib.hid hPd
  have HB3 := Lib.hid (HB2.out.trans (hb3.mono HB2.out.size))
  clear hPd hb3
  go_wp2_with fail
  go_ret2
  exact ⟨_, b, rfl, (fun hbt => spD_small HS.out (HPd.out hbt).nodup (HPd.out hbt).1), HB3.out⟩

end Go.Proofs.Ytllmhicmikpfeaa

namespace Go.Proofs.Ytllmhicmikpfeaa
set_option linter.all false
set_option maxRecDepth 100000
open Go.RowKit Go.Maps Go.WideMaps

set_option maxHeartbeats 2000000 in
theorem implDouble_yn (n : Nat) (v u : Value) (xs ys : List Int) (w : World) (h : Ints w v xs) (hy : Ints w u ys) (hp : P5 n xs) (hyl : ys.length = n) (hb : ∀ x ∈ ys, -9 ≤ x ∧ x ≤ 9) :
    Calls Try.prog 9 #[v, u] w fun e w' => ∃ (r : Value) (b : Bool), e = .returned (.tuple #[r, .bool b]) ∧ (b = true → ∃ ts, OwnTd w' w.heap.size w'.heap.size r ts ∧ TsOk ts ∧ ∀ g, Ev ts g = Ev (dblP xs ys) g) ∧ (b = false → ∃ e, ¬ (-1000000 ≤ cfP (dblP xs ys) e ∧ cfP (dblP xs ys) e ≤ 1000000)) ∧ (∃ p n c, r = .slice p n c) ∧ Below w.heap.size w w' := by
  have Hh := Lib.hid h
  have Hy := Lib.hid hy
  have Hp := Lib.hid hp
  have h5 := hp.le
  obtain ⟨hbx, hl1⟩ := dbl_box (w := xs) (ys := ys) (by rw [hp.len]; exact h5) (nine_of hb)
  have Hco := Lib.hid (fun e => show -4611686018427387904 ≤ cfP (dblP xs ys) e ∧ cfP (dblP xs ys) e ≤ 4611686018427387904 by
    have := Nat.le_trans (cf_le (dblP xs ys) e) hl1
    omega)
  have Hsu := Lib.hid (fun e (he : cfP (dblP xs ys) e ≠ 0) => box_mem (cf_box hbx he))
  obtain ⟨p, cap, rfl, _, _⟩ := h
  obtain ⟨q, cap', rfl, _, _⟩ := hy
  have hl := hp.len
  have h1 : 1 ≤ n := by have := (of_decide_eq_true hp.ok).1; omega
  have Hl := Lib.hid hl
  have Hyl := Lib.hid hyl
  have Hbb := Lib.hid hb
  have Hsh : Hid (shiftB n ys = true) := Lib.hid (by unfold shiftB; simp only [decide_eq_true_eq, Bool.and_eq_true, List.all_eq_true]; first | exact ⟨hb, by omega⟩ | exact ⟨by omega, hb⟩ | exact ⟨by omega, fun x hx => by have := hb x hx; omega⟩ | exact ⟨fun x hx => by have := hb x hx; omega, by omega⟩)
  rw [hl] at Hh ⊢
  rw [hyl] at Hy ⊢
  have g5 : ¬ (5 : Int) < (n : Int) := by omega
  have g6 : decide ((5 : Int) < (n : Int)) = false := decide_eq_false g5
  clear hp hl hyl hb hbx hl1
  go_enter Try.func9, Try.ntmps9
  go_wp2_with fail
  refine (implIsPerm_any _ xs _ Hh.out).mono ?_
  rintro e w1 ⟨rfl, hb1⟩
  rw [Hp.out.ok]
  have Hb1 := Lib.hid hb1
  clear hb1
  go_wp2_with fail
  refine (shiftsOk_any n _ ys _ (Hy.out.below Hb1.out)).mono ?_
  rintro e w1 ⟨rfl, rfl⟩
  rw [Hsh.out]
  go_wp2_with fail
  refine (double_any _ _ xs ys _ (Hh.out.below Hb1.out) (Hy.out.below Hb1.out) (by rw [Hl.out]; exact h1) (by rw [Hl.out]; omega) (by rw [Hl.out]; exact Hyl.out) Hbb.out Hp.out.low).mono ?_
  rintro e w2 ⟨u2, rfl, hpv, hb2⟩
  have Hpv := Lib.hid hpv
  have Hb2 := Lib.hid (Hb1.out.trans (hb2.mono Hb1.out.size))
  obtain ⟨b2, D2, rfl, _, _⟩ := hpv
  clear hb2
  go_wp2_with fail
  refine (closed_yn _ 10 _ _ _ boxL Hpv.out (by omega) Hco.out (fun e _ he => Hsu.out e he) (by rw [boxL_len]; omega)).mono ?_
  rintro e w3 ⟨u3, b, rfl, hyes, hno, ⟨p3, n3, k3, rfl⟩, hb3⟩
  have hs := Hb2.out.size
  have HY := Lib.hid (show b = true → ∃ ts, OwnTd w3 w.heap.size w3.heap.size (.slice p3 n3 k3) ts ∧ TsOk ts ∧ ∀ g, Ev ts g = Ev (dblP xs ys) g from fun hbt => by
    obtain ⟨ts, q1, q2, q3⟩ := hyes hbt
    exact ⟨ts, q1.mono hs (Nat.le_refl _), q2, q3⟩)
  have HN := Lib.hid hno
  have HB3 := Lib.hid (Hb2.out.trans (hb3.mono hs))
  clear hyes hno hb3
  go_wp2_with fail
  go_ret2
  exact ⟨_, b, rfl, HY.out, HN.out, ⟨_, _, _, rfl⟩, HB3.out⟩

end Go.Proofs.Ytllmhicmikpfeaa

namespace Go.Proofs.Ytllmhicmikpfeaa
set_option linter.all false
set_option maxRecDepth 100000
open Go.RowKit

/-- the sum over the reduced words of v within a word -/
def sumS (v ys : List Int) : List Nat → List Int → List Int → Int
  | [], _, h => if h = v then 1 else 0
  | k :: r, u, h => sumS v ys r (sw k u) h + (if ascB k h then (ys.getD (u.getD (k + 1) 0).toNat 0 - ys.getD (u.getD k 0).toNat 0) * sumS v ys r (sw k u) (sw k h) else 0)

end Go.Proofs.Ytllmhicmikpfeaa
