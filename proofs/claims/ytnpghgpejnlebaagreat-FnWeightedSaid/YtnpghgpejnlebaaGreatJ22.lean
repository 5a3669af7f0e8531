/-
  The closure of WeightedProduct: a puzzle's weight is added to its shape's number.
  tile: its memory; the leaf (a whole puzzle).
-/
import Derived.Test.YtnpghgpejnlebaaGreatJ21
import Derived.Test.YtnpghgpejnlebaaGreatJ4
import Derived.Deep.RegionWith
import Derived.BigRegion
import Derived.Deep.RegionHeld3
namespace Go.Proofs.YtnpghgpejnlebaaGreat
set_option linter.all false
set_option maxRecDepth 100000
open Go.RowKit Go.Shelf Go.Sort Go.Lib

/-- what changed lies in blocks of X, or from lo on in parts, or is new -/
structure FrX (lo : Nat) (X : Nat → Prop) (w w' : World) : Prop where
  os : w'.os = w.os
  tape : w'.tape = w.tape
  output : w'.output = w.output
  size : w.heap.size ≤ w'.heap.size
  block : ∀ k, k < w.heap.size → ¬ X k → (k < lo ∨ ¬ IsPt w k) → w'.heap[k]? = w.heap[k]?
theorem FrX.refl (lo : Nat) (X : Nat → Prop) (w : World) : FrX lo X w w := ⟨rfl, rfl, rfl, Nat.le_refl _, fun _ _ _ _ => rfl⟩
theorem FrX.of_below {lo : Nat} {X : Nat → Prop} {w w' : World} (h : Below w.heap.size w w') : FrX lo X w w' := ⟨h.os, h.tape, h.output, h.size, fun k hk _ _ => h.block k hk⟩
theorem FrX.of_p {lo : Nat} {X : Nat → Prop} {w w' : World} (h : FrP lo w w') : FrX lo X w w' := ⟨h.os, h.tape, h.output, h.size, fun k hk _ ho => h.block k hk ho⟩
theorem FrX.trans {lo : Nat} {X : Nat → Prop} {a b c : World} (h : FrX lo X a b) (k : FrX lo X b c) : FrX lo X a c :=
  ⟨k.os.trans h.os, k.tape.trans h.tape, k.output.trans h.output, Nat.le_trans h.size k.size, fun i hi hx ho => by
    have e := h.block i hi hx ho
    have ho' : i < lo ∨ ¬ IsPt b i := ho.imp id fun hn hp => hn (by unfold IsPt at hp ⊢; rw [e] at hp; exact hp)
    exact (k.block i (Nat.lt_of_lt_of_le hi h.size) hx ho').trans e⟩
theorem FrX.mono {lo : Nat} {X Y : Nat → Prop} {w w' : World} (h : FrX lo X w w') (hxy : ∀ k, X k → Y k) : FrX lo Y w w' := ⟨h.os, h.tape, h.output, h.size, fun k hk hx ho => h.block k hk (fun c => hx (hxy k c)) ho⟩
theorem FrX.setCell {lo : Nat} {X : Nat → Prop} {w w' : World} (h : FrX lo X w w') {a : Addr} (ha : X a.block) (u : Value) : FrX lo X w (w'.setCell a u) :=
  ⟨h.os, h.tape, h.output, by rw [size_setCell]; exact h.size, fun k hk hx ho => (Below.heap_setCell w' a u k fun e => hx (by rw [e]; exact ha)).trans (h.block k hk hx ho)⟩
theorem FrX.below {lo B : Nat} {X : Nat → Prop} {w w' : World} (h : FrX lo X w w') (hB : B ≤ lo) (hs : B ≤ w.heap.size) (hx : ∀ k, k < B → ¬ X k) : Below B w w' :=
  ⟨h.os, h.tape, h.output, h.size, fun k hk => h.block k (by omega) (hx k hk) (.inl (by omega))⟩
/-- the sum of what was seen: its box, its parts -/
structure Env (wB : World) (lo lo2 bo : Nat) (cs : List Cls) (m : Nat) (w : World) : Prop where
  base : Below wB.heap.size wB w
  lo_le : lo ≤ w.heap.size
  lo2_le : lo2 ≤ w.heap.size
  wb_lo : wB.heap.size ≤ lo
  wb_le : wB.heap.size ≤ bo
  out : ∃ u, w.heap[bo]? = some (.cells #[u] 27 (0, 0)) ∧ OwnP2 w lo lo2 w.heap.size u cs
  asc : AscP cs
  bd : BdP cs m
/-- a block that does not hold parts -/
theorem not_pt {w : World} {k : Nat} {c : Array Value} {T : TypeId} {fz : Nat × Nat} (h : w.heap[k]? = some (.cells c T fz)) (hT : T ≠ 63) : ¬ IsPt w k := fun ⟨c', fz', e⟩ => by
  rw [h] at e
  exact hT (by injection e with e; injection e)
theorem Env.below {wB w w' : World} {lo lo2 bo : Nat} {cs : List Cls} {m : Nat} (h : Env wB lo lo2 bo cs m w) (hb : Below w.heap.size w w') : Env wB lo lo2 bo cs m w' := by
  obtain ⟨u, h1, h2⟩ := h.out
  exact ⟨h.base.trans (hb.mono h.base.size), Nat.le_trans h.lo_le hb.size, Nat.le_trans h.lo2_le hb.size, h.wb_lo, h.wb_le, ⟨u, blk_later h1 hb, (h2.below hb).mono (Nat.le_refl _) hb.size⟩, h.asc, h.bd⟩
/-- a number is written into a block that is not the sum's -/
theorem Env.setInt {wB w : World} {lo lo2 bo : Nat} {cs : List Cls} {m : Nat} (h : Env wB lo lo2 bo cs m w) {a : Addr} {c : Array Value} (hz : w.heap[a.block]? = some (.cells c 3 (0, 0))) (h1 : wB.heap.size ≤ a.block) (h2 : a.block < lo2) (u : Value) : Env wB lo lo2 bo cs m (w.setCell a u) := by
  obtain ⟨v, k1, k2⟩ := h.out
  have hne : bo ≠ a.block := fun e => by
    rw [e, hz] at k1
    injection k1 with e1
    injection e1 with _ e2
    exact absurd e2 (by decide)
  exact ⟨h.base.setCell h1 u, by rw [size_setCell]; exact h.lo_le, by rw [size_setCell]; exact h.lo2_le, h.wb_lo, h.wb_le, ⟨v, (Below.heap_setCell w a u bo hne).trans k1, by rw [size_setCell]; exact k2.setCell hz (by decide) (.inr h2) u⟩, h.asc, h.bd⟩

theorem Env.step {wB w2 w3 w4 : World} {lo lo2 bo m n : Nat} {cs : List Cls} {p : Puz} {ys : List Int} {c : Int} {u4 u : Value} (h : Env wB lo lo2 bo cs m w2) (hb3 : Below w2.heap.size w2 w3) (hf : FrP lo w3 w4) (hz : w4.heap[bo]? = some (.cells #[u] 27 (0, 0)))
    (ho : OwnP2 w4 lo lo2 w4.heap.size u4 (sumdP (pzK n p) c cs)) (hc : c = wtI n ys p) (h4 : n ≤ 4) (hy9 : ∀ i, -9 ≤ ys.getD i 0 ∧ ys.getD i 0 ≤ 9) : Env wB lo lo2 bo (sumdL (pzK n p) (wtI n ys p) cs) (m + 1) (w4.setCell ⟨bo, 0, none⟩ u4) := by
  have h3 := h.below hb3
  have hB4 : Below wB.heap.size w3 w4 := ⟨hf.os, hf.tape, hf.output, hf.size, fun k hk => hf.block k (Nat.lt_of_lt_of_le hk h3.base.size) (.inl (Nat.lt_of_lt_of_le hk h3.wb_lo))⟩
  have hb5 : Below wB.heap.size w4 (w4.setCell ⟨bo, 0, none⟩ u4) := (Below.refl _ w4).setCell (p := ⟨bo, 0, none⟩) h.wb_le u4
  rw [sumd_same, hc] at ho
  refine ⟨(h3.base.trans hB4).trans hb5, by rw [size_setCell]; exact Nat.le_trans h3.lo_le hf.size, by rw [size_setCell]; exact Nat.le_trans h3.lo2_le hf.size, h.wb_lo, h.wb_le, ⟨u4, ?_, ?_⟩, sumdL_asc _ _ h.asc, h.bd.step _ (wtI_bnd h4 hy9 p)⟩
  · rw [heap_setCell_at hz]; rfl
  · rw [size_setCell]
    exact ho.setCell (a := ⟨bo, 0, none⟩) hz (by decide) (.inl (by decide)) _

set_option maxHeartbeats 8000000 in
theorem see_any (wB : World) (lo lo2 bo by' n m : Nat) (vy uL uR uB : Value) (p : Puz) (ys : List Int) (cs : List Cls) (w : World) (h1 : 1 ≤ n) (h4 : n ≤ 4) (hE : Env wB lo lo2 bo cs m w) (hp : pzB n p = true) (hr : RdPz w uL uR uB p)
    (hby : wB.cell? ⟨by', 0, none⟩ = some vy) (hy : Ints wB vy ys) (hyl : ys.length = n) (hy9 : ∀ i, -9 ≤ ys.getD i 0 ∧ ys.getD i 0 ≤ 9) (hm : m < 1000) :
    Calls Tryz.prog 17 #[.agg #[.int .i64 (n : Int), uL, uR, uB], .pointer (some ⟨bo, 0, none⟩), .pointer (some ⟨by', 0, none⟩)] w fun e w' =>
      e = .returned (.bool true) ∧ Env wB lo lo2 bo (sumdL (pzK n p) (wtI n ys p) cs) (m + 1) w' ∧ FrX lo (fun k => k = bo) w w' := by
  have Hp := Lib.hid hp
  have Hr := Lib.hid hr
  have HE := Lib.hid hE
  obtain ⟨pL, kL, rfl, _⟩ := hr.L
  obtain ⟨pR, kR, rfl, _⟩ := hr.R
  obtain ⟨pB, kB, rfl, _⟩ := hr.B
  have hst : strOk (thirdL n p) = true := by
    unfold pzB at hp
    simp only [Bool.and_eq_true, decide_eq_true_eq] at hp
    exact hp.2
  obtain ⟨nL, hL⟩ : ∃ n, n = p.L.length := ⟨_, rfl⟩
  obtain ⟨nR, hR⟩ : ∃ n, n = p.R.length := ⟨_, rfl⟩
  obtain ⟨nB, hB⟩ : ∃ n, n = p.B.length := ⟨_, rfl⟩
  rw [← hL, ← hR, ← hB] at Hr ⊢
  obtain ⟨W, hW⟩ : ∃ W, W = w.alloc (.cells #[.int .i64 (n : Int), .slice pL nL kL, .slice pR nR kR, .slice pB nB kB] 43) := ⟨_, rfl⟩
  have z0 : W.heap[w.heap.size]? = some (.cells #[.int .i64 (n : Int), .slice pL nL kL, .slice pR nR kR, .slice pB nB kB] 43 (0, 0)) := by rw [hW]; exact heap_alloc_top _ _
  have hb0 : Below w.heap.size w W := by rw [hW]; exact below_alloc w _
  have HX := Lib.hid (show ∀ wq, Below W.heap.size W wq → wq.cell? ⟨w.heap.size, 0, none⟩ = some (.int .i64 (n : Int)) ∧ wq.cell? ⟨w.heap.size, 1, none⟩ = some (.slice pL nL kL) ∧ wq.cell? ⟨w.heap.size, 2, none⟩ = some (.slice pR nR kR) ∧ wq.cell? ⟨w.heap.size, 3, none⟩ = some (.slice pB nB kB) from fun wq hq =>
    ⟨cell_below hq (cell_of_blk z0 (j := 0) rfl), cell_below hq (cell_of_blk z0 (j := 1) rfl), cell_below hq (cell_of_blk z0 (j := 2) rfl), cell_below hq (cell_of_blk z0 (j := 3) rfl)⟩)
  have Hb0 := Lib.hid hb0
  have HW := Lib.hid hW
  have HS := Lib.hid (SidesOf_any n _ _ _ p W h1 h4 (Hr.out.below hb0) Hp.out)
  have Hst := Lib.hid hst
  have Hby := Lib.hid hby
  have Hy := Lib.hid hy
  have Hyl := Lib.hid hyl
  have Hy9 := Lib.hid hy9
  have Hm := Lib.hid hm
  clear hst z0 hb0 hW hL hR hB hr hE hby hy hyl hy9 hm hp
  go_enter Tryz.func17, Tryz.ntmps17
  go_wp2_with fail
  rw [← HW.out]
  refine HS.out.mono ?_
  rintro e w1 ⟨u1, u2, u3, rfl, ho3, hb1⟩
  have Hb1 := Lib.hid hb1
  have Ho3 := Lib.hid ho3
  clear hb1 ho3 HS
  go_wp2_with fail
  refine (ShapeOfString_any _ _ _ Ho3.out Hst.out).mono ?_
  rintro e w2 ⟨us, rfl, hos, hb2⟩
  have Hb2 := Lib.hid (Hb1.out.trans (hb2.mono Hb1.out.size))
  have Hos := Lib.hid hos
  obtain ⟨ps, ks, rfl, _, _⟩ := hos
  clear hb2
  go_wp2_with fail
  obtain ⟨ns, hns⟩ : ∃ ns, ns = (shL (ssR (thirdL n p) (thirdL n p).length)).length := ⟨_, rfl⟩
  rw [← hns] at Hos ⊢
  have HE2 := Lib.hid ((HE.out.below Hb0.out).below Hb2.out)
  obtain ⟨u, hu1, hu2⟩ := HE2.out.out
  obtain ⟨pu, ku, rfl, _, _⟩ := hu2.shape
  have Hu1 := Lib.hid hu1
  have Hu2 := Lib.hid hu2
  obtain ⟨nc, hnc⟩ : ∃ nc, nc = cs.length := ⟨_, rfl⟩
  rw [← hnc] at Hu1 Hu2
  have Hb02 := Lib.hid (Hb0.out.trans (Hb2.out.mono Hb0.out.size))
  have hy2 : w2.cell? ⟨by', 0, none⟩ = some vy := cell_below HE2.out.base Hby.out
  have Hys := Lib.hid (Hy.out.below HE2.out.base)
  obtain ⟨py, ky, rfl, _, _⟩ := Hy.out
  obtain ⟨ny, hny⟩ : ∃ ny, ny = ys.length := ⟨_, rfl⟩
  rw [← hny] at hy2 Hys
  obtain ⟨hx0, hx1, hx2, hx3⟩ := HX.out w2 Hb2.out
  have hbo := cell_of_blk Hu1.out (j := 0) rfl
  have HWg := Lib.hid (weigh_any n _ _ _ _ p ys w2.drew h1 h4 ((Hr.out.below Hb02.out).below (Below.refl _ _).drew) Hp.out (Hys.out.below (Below.refl _ _).drew) Hyl.out Hy9.out)
  obtain ⟨c, hc⟩ : ∃ c, c = wtI n ys p := ⟨_, rfl⟩
  have hcb := wtI_bnd h4 Hy9.out p
  rw [← hc] at HWg hcb
  have Hcb := Lib.hid hcb
  have Hc := Lib.hid hc
  have Hnc := Lib.hid hnc
  have Hns := Lib.hid hns
  have hblo : bo < w2.heap.size := blk_lt Hu1.out
  have hns4 : ns ≤ 4 := by
    rw [hns]
    unfold shL
    rw [List.length_take]
    have h1 := ssR_len (thirdL n p) (thirdL n p).length
    have h2 : (thirdL n p).length = n := by simp [thirdL]
    omega
  have HSm := Lib.hid (show ∀ w3, Below w2.heap.size w2 w3 → Calls Tryz.prog 20 #[.slice pu nc ku, .slice ps ns ks, .int .i64 c] w3 fun e w' => ∃ u', e = .returned u' ∧ OwnP2 w' lo lo2 w'.heap.size u' (sumdP (pzK n p) c cs) ∧ FrP lo w3 w' from fun w3 hb3 =>
    summed_any _ _ cs (pzK n p) c lo lo2 w2.heap.size w3 (Hu2.out.below hb3) (by
      have := Hos.out.below hb3
      exact this) HE2.out.asc (by have := HE2.out.bd.1; have := Hm.out; omega) (by
      have : (pzK n p).length = ns := by rw [hns]; rfl
      omega) (HE2.out.bd.get (by have := Hm.out; omega)) (by have := Hcb.out; have : wC = 3570467226624 := rfl; omega) (Nat.le_trans HE2.out.lo_le hb3.size) (Nat.le_trans HE2.out.lo2_le hb3.size) hb3.size)
  clear hcb hc hu1 hu2 hnc hns hny hns4
  go_region_with (first
    | (go_at_call 21; refine HWg.out.mono ?_; rintro e w3 ⟨rfl, hb3⟩; have hbo3 := cell_below hb3 hbo)
    | (go_at_call 20; refine (HSm.out _ (below_of_drew hb3)).mono ?_; rintro e w4 ⟨u4, rfl, ho4, hf4⟩; obtain ⟨p4, n4, k4, rfl⟩ : ∃ p n k, u4 = .slice p n k := by { obtain ⟨p, k, e, _⟩ := ho4.shape; exact ⟨_, _, _, e⟩ }; have hz3 := (hb3.block bo hblo).trans Hu1.out; have hz4 := (hf4.block bo (Nat.lt_of_lt_of_le hblo hb3.size) (Or.inr (not_pt hz3 (by decide)))).trans hz3; clear hz3; have hbo4 := cell_of_blk hz4 (j := 0) rfl; have hfz4 := free_of_blk hz4 0; have Hz4 := Lib.hid hz4; clear hz4))
  all_goals
    have hE' := Env.step HE2.out (below_of_drew hb3) hf4 Hz4.out ho4 (n := n) (ys := ys) (by rw [Hc.out]) h4 Hy9.out
    have hF' : FrX lo (fun k => k = bo) w (w4.setCell ⟨bo, 0, none⟩ (.slice p4 n4 k4)) := (((FrX.of_below Hb02.out).trans (FrX.of_below (below_of_drew hb3))).trans (FrX.of_p hf4)).setCell (X := fun k => k = bo) (a := ⟨bo, 0, none⟩) rfl _
    clear hbo4 hfz4 hbo3 hb3 hf4 ho4
    go_wp2_with fail
    go_ret
    exact ⟨rfl, hE', hF'⟩

end Go.Proofs.YtnpghgpejnlebaaGreat

namespace Go.Proofs.YtnpghgpejnlebaaGreat
set_option linter.all false
set_option maxRecDepth 100000
open Go.RowKit Go.Shelf Go.Sort Go.Lib

/-- a list of numbers in a block of its own -/
def Arr (w : World) (g : Nat) (a : List Int) : Prop := w.heap[g]? = some (.cells (ivs a).toArray 3 (0, 0))
theorem Arr.cell {w : World} {g : Nat} {a : List Int} (h : Arr w g a) {j : Nat} (hj : j < a.length) : w.cell? ⟨g, j, none⟩ = some (.int .i64 (a.getD j 0)) :=
  cell_of_blk h (by rw [List.getElem?_toArray, getElem?_ivs a j hj]; rfl)
theorem Arr.free {w : World} {g : Nat} {a : List Int} (h : Arr w g a) (j : Nat) : w.frozen? ⟨g, j, none⟩ = false := free_of_blk h j
theorem Arr.set {w : World} {g : Nat} {a : List Int} (h : Arr w g a) (j : Nat) (x : Int) : Arr (w.setCell ⟨g, j, none⟩ (.int .i64 x)) g (a.set j x) := by
  unfold Arr
  rw [heap_setCell_at h]
  congr 2
  unfold ivs
  rw [List.map_set]
  simp
theorem Arr.other {w : World} {g : Nat} {a : List Int} (h : Arr w g a) {p : Addr} (hne : g ≠ p.block) (u : Value) : Arr (w.setCell p u) g a := (Below.heap_setCell w p u g hne).trans h
theorem Arr.below {w w' : World} {g : Nat} {a : List Int} (h : Arr w g a) (hb : Below w.heap.size w w') : Arr w' g a := blk_later h hb
theorem Arr.ints {w : World} {g : Nat} {a : List Int} (h : Arr w g a) (hm : a.length ≤ maxLen) : Ints w (.slice (some ⟨g, 0, none⟩) a.length a.length) a :=
  ⟨_, _, rfl, ⟨Nat.le_refl _, hm⟩, fun _ => ⟨g, 0, rfl, fun j hj => by
    rw [Nat.zero_add]
    exact h.cell hj⟩⟩
theorem FrX.keep {lo : Nat} {X : Nat → Prop} {w w' : World} (h : FrX lo X w w') {k : Nat} {c : Array Value} {T : TypeId} {fz : Nat × Nat} (hz : w.heap[k]? = some (.cells c T fz)) (hT : T ≠ 63) (hx : ¬ X k) : w'.heap[k]? = some (.cells c T fz) :=
  (h.block k (blk_lt hz) hx (.inr (not_pt hz hT))).trans hz

/-- where all lies -/
structure Geo (wB : World) (lo lo2 bo by' gL gR gB bT kT n N : Nat) (C : Array Value) (va vb vy : Value) (a b ys : List Int) : Prop where
  n1 : 1 ≤ n
  n4 : n ≤ 4
  hN : N = n * (n + 1) / 2
  LR : gL ≠ gR
  LB : gL ≠ gB
  RB : gR ≠ gB
  oL : bo ≠ gL
  oR : bo ≠ gR
  oB : bo ≠ gB
  Tx : bT ≠ bo ∧ bT ≠ gL ∧ bT ≠ gR ∧ bT ≠ gB
  L : wB.heap.size ≤ gL ∧ gL < lo2
  R : wB.heap.size ≤ gR ∧ gR < lo2
  B : wB.heap.size ≤ gB ∧ gB < lo2
  o2 : bo < lo2
  kT6 : 6 ≤ kT
  kTm : kT ≤ maxLen
  tri : ∀ i, i < 6 → ∀ j, j < 3 → C[i * 3 + j]? = some (trF i j)
  byc : wB.cell? ⟨by', 0, none⟩ = some vy
  fy : Ints wB vy ys
  yl : ys.length = n
  y9 : ∀ i, -9 ≤ ys.getD i 0 ∧ ys.getD i 0 ≤ 9
  fa : Ints wB va a
  al : a.length = n
  fb : Ints wB vb b
  bl : b.length = n
/-- the arrays: their first A numbers are the puzzle's -/
structure Pzs (gL gR gB N A : Nat) (p : Puz) (w : World) : Prop where
  arr : ∃ aL aR aB : List Int, aL.length = N ∧ aR.length = N ∧ aB.length = N ∧ Arr w gL aL ∧ Arr w gR aR ∧ Arr w gB aB ∧ aL.take A = p.L ∧ aR.take A = p.R ∧ aB.take A = p.B
def blkX (bo gL gR gB k : Nat) : Prop := k = bo ∨ k = gL ∨ k = gR ∨ k = gB
theorem Pzs.below {gL gR gB N A : Nat} {p : Puz} {w w' : World} (h : Pzs gL gR gB N A p w) (hb : Below w.heap.size w w') : Pzs gL gR gB N A p w' := by
  obtain ⟨aL, aR, aB, h1, h2, h3, h4, h5, h6, h7⟩ := h.arr
  exact ⟨aL, aR, aB, h1, h2, h3, h4.below hb, h5.below hb, h6.below hb, h7⟩
theorem Pzs.seen {lo bo gL gR gB N A : Nat} {p : Puz} {w w' : World} (h : Pzs gL gR gB N A p w) (hf : FrX lo (fun k => k = bo) w w') (oL : bo ≠ gL) (oR : bo ≠ gR) (oB : bo ≠ gB) : Pzs gL gR gB N A p w' := by
  obtain ⟨aL, aR, aB, h1, h2, h3, h4, h5, h6, h7⟩ := h.arr
  exact ⟨aL, aR, aB, h1, h2, h3, hf.keep h4 (by decide) (fun e => oL e.symm), hf.keep h5 (by decide) (fun e => oR e.symm), hf.keep h6 (by decide) (fun e => oB e.symm), h7⟩
theorem Pzs.rd {gL gR gB N : Nat} {p : Puz} {w : World} (h : Pzs gL gR gB N N p w) (hN : N ≤ 1000) : RdPz w (.slice (some ⟨gL, 0, none⟩) N N) (.slice (some ⟨gR, 0, none⟩) N N) (.slice (some ⟨gB, 0, none⟩) N N) p := by
  obtain ⟨aL, aR, aB, h1, h2, h3, h4, h5, h6, h7, h8, h9⟩ := h.arr
  have hm : N ≤ maxLen := by unfold maxLen; omega
  have e1 := h4.ints (by rw [h1]; exact hm)
  have e2 := h5.ints (by rw [h2]; exact hm)
  have e3 := h6.ints (by rw [h3]; exact hm)
  rw [List.take_of_length_le (by omega)] at h7 h8 h9
  rw [h1, h7] at e1
  rw [h2, h8] at e2
  rw [h3, h9] at e3
  exact ⟨e1, e2, e3⟩

section
variable {wB : World} {lo lo2 bo by' gL gR gB bT kT n N : Nat} {C : Array Value} {va vb vy : Value} {a b ys : List Int}

set_option maxHeartbeats 8000000 in
theorem leaf_any (G : Geo wB lo lo2 bo by' gL gR gB bT kT n N C va vb vy a b ys) (p : Puz) (cs : List Cls) (m : Nat) (w : World) (hE : Env wB lo lo2 bo cs m w) (hP : Pzs gL gR gB N N p w) (hp : pzB n p = true) (hm : m < 1000) :
    Calls Tryz.prog 38 #[.agg #[.int .i64 (n : Int), .slice (some ⟨gL, 0, none⟩) N N, .slice (some ⟨gR, 0, none⟩) N N, .slice (some ⟨gB, 0, none⟩) N N], va, vb, .slice (some ⟨bT, 0, none⟩) 6 kT, .int .i64 (n : Int), .int .i64 0,
      .func (.func 17) #[] #[.pointer (some ⟨bo, 0, none⟩), .pointer (some ⟨by', 0, none⟩)]] w fun e w' =>
      e = .returned (.bool true) ∧ Env wB lo lo2 bo (finL n ys [p] cs) (m + 1) w' ∧ FrX lo (blkX bo gL gR gB) w w' ∧ Pzs gL gR gB N N p w' := by
  have hN10 : N ≤ 1000 := by
    rw [G.hN]
    have := G.n4
    have := Nat.mul_le_mul G.n4 (show n + 1 ≤ 5 by omega)
    omega
  have Hr := Lib.hid (hP.rd hN10)
  obtain ⟨W, hW⟩ : ∃ W, W = w.alloc (.cells #[.int .i64 (n : Int), .slice (some ⟨gL, 0, none⟩) N N, .slice (some ⟨gR, 0, none⟩) N N, .slice (some ⟨gB, 0, none⟩) N N] 43) := ⟨_, rfl⟩
  have z0 : W.heap[w.heap.size]? = some (.cells #[.int .i64 (n : Int), .slice (some ⟨gL, 0, none⟩) N N, .slice (some ⟨gR, 0, none⟩) N N, .slice (some ⟨gB, 0, none⟩) N N] 43 (0, 0)) := by rw [hW]; exact heap_alloc_top _ _
  have hb0 : Below w.heap.size w W := by rw [hW]; exact below_alloc w _
  have HX := Lib.hid (show ∀ wq, Below W.heap.size W wq → wq.cell? ⟨w.heap.size, 1, none⟩ = some (.slice (some ⟨gL, 0, none⟩) N N) ∧ wq.cell? ⟨w.heap.size, 2, none⟩ = some (.slice (some ⟨gR, 0, none⟩) N N) ∧ wq.cell? ⟨w.heap.size, 3, none⟩ = some (.slice (some ⟨gB, 0, none⟩) N N) from fun wq hq =>
    ⟨cell_below hq (cell_of_blk z0 (j := 1) rfl), cell_below hq (cell_of_blk z0 (j := 2) rfl), cell_below hq (cell_of_blk z0 (j := 3) rfl)⟩)
  have Hb0 := Lib.hid hb0
  have HW := Lib.hid hW
  have HE := Lib.hid hE
  have HP := Lib.hid hP
  have Hp := Lib.hid hp
  have Hm := Lib.hid hm
  have HG := Lib.hid G
  have hlen := hp
  unfold pzB at hlen
  simp only [Bool.and_eq_true, decide_eq_true_eq] at hlen
  obtain ⟨⟨⟨⟨hl, hr⟩, hb⟩, _⟩, _⟩ := hlen
  rw [← G.hN] at hl hr hb
  have key : ∀ (g : Nat) (xs : List Int), xs.length = N → Ints w (.slice (some ⟨g, 0, none⟩) N N) xs → ∀ wx, Below W.heap.size W wx → Calls Tryz.prog 46 #[.slice (some ⟨g, 0, none⟩) N N] wx fun e w' => ∃ q k, e = .returned (.slice q N k) ∧ Ints w' (.slice q N k) xs ∧ Below W.heap.size W w' ∧ Below wx.heap.size wx w' := fun g xs hx hi wx hw =>
    (clone_any _ xs wx ((hi.below hb0).below hw) (by omega)).mono fun e w' ⟨u, he, ho, hb⟩ => by
      obtain ⟨q, k, hu, _, _⟩ := ho.shape
      subst hu
      have hI := ho.ints
      rw [hx] at he hI
      exact ⟨q, k, he, hI, hw.trans (hb.mono hw.size), hb⟩
  have HL := Lib.hid (key gL p.L hl Hr.out.L)
  have HR := Lib.hid (key gR p.R hr Hr.out.R)
  have HB := Lib.hid (key gB p.B hb Hr.out.B)
  have HC := Lib.hid (show ∀ wx uL uR uB, Below W.heap.size W wx → RdPz wx uL uR uB p → Calls Tryz.prog 17 #[.agg #[.int .i64 (n : Int), uL, uR, uB], .pointer (some ⟨bo, 0, none⟩), .pointer (some ⟨by', 0, none⟩)] wx fun e w' =>
      e = .returned (.bool true) ∧ Env wB lo lo2 bo (finL n ys [p] cs) (m + 1) w' ∧ FrX lo (blkX bo gL gR gB) w w' ∧ Pzs gL gR gB N N p w' ∧ (w'.cell? ⟨w.heap.size, 1, none⟩ = some (.slice (some ⟨gL, 0, none⟩) N N) ∧ w'.cell? ⟨w.heap.size, 2, none⟩ = some (.slice (some ⟨gR, 0, none⟩) N N) ∧ w'.cell? ⟨w.heap.size, 3, none⟩ = some (.slice (some ⟨gB, 0, none⟩) N N)) from fun wx uL uR uB hw hx =>
    (see_any wB lo lo2 bo by' n m vy _ _ _ p ys cs _ G.n1 G.n4 ((hE.below hb0).below hw) hp hx G.byc G.fy G.yl G.y9 hm).mono fun e w' ⟨he, hE', hF⟩ =>
      ⟨he, hE', (FrX.of_below (hb0.trans (hw.mono hb0.size))).trans (hF.mono fun k e => .inl e), ((hP.below hb0).below hw).seen hF G.oL G.oR G.oB, by
        have z9 := hF.keep (blk_later z0 hw) (by decide) (fun e => by obtain ⟨u, q, _⟩ := hE.out; have := blk_lt q; omega)
        exact ⟨cell_of_blk z9 (j := 1) rfl, cell_of_blk z9 (j := 2) rfl, cell_of_blk z9 (j := 3) rfl⟩⟩)
  have x0 := cell_of_blk z0 (j := 0) rfl
  have Hd := (Below.refl W.heap.size W).drew
  obtain ⟨pa, na, ka, rfl⟩ : ∃ p n k, va = .slice p n k := by obtain ⟨p, k, e, _⟩ := G.fa; exact ⟨_, _, _, e⟩
  obtain ⟨pb, nb, kb, rfl⟩ : ∃ p n k, vb = .slice p n k := by obtain ⟨p, k, e, _⟩ := G.fb; exact ⟨_, _, _, e⟩
  clear key hl hr hb z0 hb0 hW hE hP hp hm G hN10 Hr HE HP Hp Hm HG
  go_enter Tryz.func38, Tryz.ntmps38
  go_wp2_with fail
  rw [← HW.out]
  go_wp2_with fail
  go_region_held3 (fun w' => w'.cell? ⟨w.heap.size, 1, none⟩ = some (.slice (some ⟨gL, 0, none⟩) N N) ∧ w'.cell? ⟨w.heap.size, 2, none⟩ = some (.slice (some ⟨gR, 0, none⟩) N N) ∧ w'.cell? ⟨w.heap.size, 3, none⟩ = some (.slice (some ⟨gB, 0, none⟩) N N)) (first | exact HX.out _ (by assumption) | exact hS9) (first
    | (go_at_call 46; with_reducible refine Calls.mono (HL.out _ (by assumption)) ?_; rintro e wL ⟨qL, kL, rfl, oL, cL, bL⟩)
    | (go_at_call 46; with_reducible refine Calls.mono (HR.out _ (by assumption)) ?_; rintro e wR ⟨qR, kR, rfl, oR, cR, bR⟩)
    | (go_at_call 46; with_reducible refine Calls.mono (HB.out _ (by assumption)) ?_; rintro e wZ ⟨qB, kB, rfl, oB, cB, bB⟩)
    | (go_at_call 17; with_reducible refine Calls.mono (HC.out _ _ _ _ (by assumption) ⟨by first | exact oL | exact oL.below bR | exact oL.below bB | exact (oL.below bR).below bB | exact (oL.below bB).below bR, by first | exact oR | exact oR.below bL | exact oR.below bB | exact (oR.below bL).below bB | exact (oR.below bB).below bL, by first | exact oB | exact oB.below bR | exact oB.below bL | exact (oB.below bR).below bL | exact (oB.below bL).below bR⟩) ?_; rintro e w9 ⟨rfl, hE9, hF9, hP9, hS9⟩))
  all_goals
    go_wp2_with fail
    go_ret
    exact ⟨rfl, hE9, hF9, hP9⟩
end

end Go.Proofs.YtnpghgpejnlebaaGreat
