/-
  Slices of classes: copied, measured, compared by the law's own helpers.
-/
import Derived.Test.YtejoapielndnnaaStru
import Derived.Test.YtejoapielndnnaaLawM
import Derived.Test.YtejoapielndnnaaLawII
import Derived.Test.YtejoapielndnnaaHeld
namespace Go.Proofs.Ytejoapielndnnaa
set_option linter.all false
open Go.RowKit

abbrev Cls := List Int × Int
def clD : Cls := ([], 0)
/-- the fields of classes, the permutations' slices being f -/
def clF (cs : List Cls) (f : Nat → Value) (i j : Nat) : Value :=
  match j with
  | 0 => f i
  | _ => .int .i64 (cs.getD i clD).2
/-- classes that can be read, at the head of a block -/
def RdCl (w : World) (v : Value) (cs : List Cls) : Prop := ∃ f, RdS w 2 v cs.length (clF cs f) ∧ ∀ i, i < cs.length → Ints w (f i) (cs.getD i clD).1
theorem RdCl.below {w w' : World} {v : Value} {cs : List Cls} (h : RdCl w v cs) (hb : Below w.heap.size w w') : RdCl w' v cs := by
  obtain ⟨f, h1, h2⟩ := h
  exact ⟨f, h1.below hb, fun i hi => (h2 i hi).below hb⟩
theorem RdS.two {w : World} {v : Value} {cs : List Cls} {f : Nat → Value} (h : RdS w 2 v cs.length (clF cs f)) : ∃ p cap, v = .slice p cs.length cap ∧ (cs.length ≤ cap ∧ cap ≤ maxLen) ∧
    (0 < cs.length → ∃ b, p = some ⟨b, 0, none⟩ ∧ ∀ i, i < cs.length → w.cell? ⟨b, i * 2, none⟩ = some (f i) ∧ w.cell? ⟨b, i * 2 + 1, none⟩ = some (.int .i64 (cs.getD i clD).2)) := by
  obtain ⟨p, cap, rfl, hm, h⟩ := h
  refine ⟨p, cap, rfl, hm, fun h0 => ?_⟩
  obtain ⟨b, hp, hx⟩ := h h0
  exact ⟨b, hp, fun i hi => ⟨hx i hi 0 (by omega), hx i hi 1 (by omega)⟩⟩
/-- classes that a call made -/
def OwnCl (w : World) (lo hi : Nat) (v : Value) (cs : List Cls) : Prop :=
  ∃ g, OwnS w lo hi 85 2 v cs.length (clF cs g) ∧ ∀ i, i < cs.length → OwnI 3 w lo hi (g i) (cs.getD i clD).1
theorem OwnCl.rd {w : World} {lo hi : Nat} {v : Value} {cs : List Cls} (h : OwnCl w lo hi v cs) : RdCl w v cs := by
  obtain ⟨g, h1, h2⟩ := h
  exact ⟨g, h1.rd, fun i hi => (h2 i hi).ints⟩
theorem OwnCl.below {w w' : World} {lo hi : Nat} {v : Value} {cs : List Cls} (h : OwnCl w lo hi v cs) (hb : Below w.heap.size w w') : OwnCl w' lo hi v cs := by
  obtain ⟨g, h1, h2⟩ := h
  exact ⟨g, h1.below hb, fun i hi => (h2 i hi).below hb⟩
theorem OwnCl.mono {w : World} {lo hi lo' hi' : Nat} {v : Value} {cs : List Cls} (h : OwnCl w lo hi v cs) (a : lo' ≤ lo) (b : hi ≤ hi') : OwnCl w lo' hi' v cs := by
  obtain ⟨g, h1, h2⟩ := h
  exact ⟨g, h1.mono a b, fun i hi => (h2 i hi).mono a b⟩
theorem OwnCl.setCell {w : World} {lo hi : Nat} {v : Value} {cs : List Cls} (h : OwnCl w lo hi v cs) {a : Addr} (ho : a.block < lo ∨ hi ≤ a.block) (u : Value) : OwnCl (w.setCell a u) lo hi v cs := by
  obtain ⟨g, h1, h2⟩ := h
  exact ⟨g, h1.setCell ho u, fun i hi => (h2 i hi).setCell ho u⟩
theorem OwnCl.shape {w : World} {lo hi : Nat} {v : Value} {cs : List Cls} (h : OwnCl w lo hi v cs) : ∃ p cap, v = .slice p cs.length cap ∧ cs.length ≤ cap ∧ cap ≤ maxLen := by
  obtain ⟨g, h1, _⟩ := h
  obtain ⟨p, cap, e, h2, h3, _⟩ := h1.shape
  exact ⟨p, cap, e, h2, h3⟩
/-- classes that came in, wherever they lie -/
def RdClA (w : World) (v : Value) (cs : List Cls) : Prop :=
  ∃ (p : Option Addr) (cap : Nat) (f : Nat → Value), v = .slice p cs.length cap ∧ (cs.length ≤ cap ∧ cap ≤ maxLen) ∧
    (0 < cs.length → ∃ b off, p = some ⟨b, off, none⟩ ∧ ∀ i, i < cs.length → w.cell? ⟨b, off + i * 2, none⟩ = some (f i) ∧ w.cell? ⟨b, off + i * 2 + 1, none⟩ = some (.int .i64 (cs.getD i clD).2)) ∧
    ∀ i, i < cs.length → Ints w (f i) (cs.getD i clD).1
theorem RdClA.below {w w' : World} {v : Value} {cs : List Cls} (h : RdClA w v cs) (hb : Below w.heap.size w w') : RdClA w' v cs := by
  obtain ⟨p, cap, f, e, h1, h2, h3⟩ := h
  refine ⟨p, cap, f, e, h1, fun h0 => ?_, fun i hi => (h3 i hi).below hb⟩
  obtain ⟨b, off, hp, hx⟩ := h2 h0
  exact ⟨b, off, hp, fun i hi => ⟨cell_below hb (hx i hi).1, cell_below hb (hx i hi).2⟩⟩

/-- none of the lists is too long -/
def ClsFit (cs : List Cls) : Prop := cs.length ≤ 1048576 ∧ ∀ i, i < cs.length → (cs.getD i clD).1.length ≤ 1048576

set_option maxRecDepth 100000 in
set_option maxHeartbeats 1000000 in
theorem szClass_any (d : Value) (xs : List Int) (c left : Int) (w : World) (h : Ints w d xs) (h0 : 0 ≤ left) (h1 : left ≤ 1048576) :
    Calls Try.prog 74 #[.agg #[d, .int .i64 c], .int .i64 left] w fun e w' => e = .returned (.int .i64 (szI left xs.length)) ∧ Below w.heap.size w w' := by
  obtain ⟨p, cap, rfl, ⟨hx1, hx⟩, _⟩ := h
  unfold maxLen at hx
  have hn : (xs.length : Int) ≤ 9223372036854775807 := by omega
  obtain ⟨Z, hZ⟩ : ∃ Z, Z = szI left xs.length := ⟨_, rfl⟩
  have hz2 : Z = -1 ∨ 0 ≤ Z := by rw [hZ]; unfold szI; split <;> omega
  have hc := fun w => szIntS_any p xs.length cap left w hn h0 h1
  rw [← hZ] at hc ⊢
  have Hc := Lib.hid hc
  clear hZ hc
  rcases hz2 with hz | hz
  · subst hz
    go_enter Try.func74, Try.ntmps74
    go_wp2_with fail
    refine (Hc.out _).mono ?_
    rintro e w' ⟨rfl, rfl⟩
    go_wp2_with fail
    go_ret
    exact ⟨rfl, below_alloc _ _⟩
  · have hz2 : ¬ Z < 0 := by omega
    go_enter Try.func74, Try.ntmps74
    go_wp2_with fail
    refine (Hc.out _).mono ?_
    rintro e w' ⟨rfl, rfl⟩
    go_wp2_with fail
    go_ret
    exact ⟨rfl, below_alloc _ _⟩

theorem szI_cases (left : Int) (n : Nat) (h0 : 0 ≤ left) : szI left n = -1 ∨ (0 ≤ szI left n ∧ szI left n ≤ left ∧ (n : Int) ≤ left) := by
  unfold szI; split <;> omega

set_option maxRecDepth 100000 in
set_option maxHeartbeats 1000000 in
theorem szClassS_any (v : Value) (cs : List Cls) (left : Int) (w : World) (h : RdClA w v cs) (h0 : 0 ≤ left) (h1 : left ≤ 1048576) :
    Calls Try.prog 52 #[v, .int .i64 left] w fun e w' => ∃ r : Int, e = .returned (.int .i64 r) ∧ (r = -1 ∨ (0 ≤ r ∧ r ≤ left ∧ ClsFit cs)) ∧ Below w.heap.size w w' := by
  obtain ⟨p, cap, f, rfl, ⟨hx1, hx⟩, hxc, hf⟩ := h
  unfold maxLen at hx
  have Hxc := Lib.hid hxc
  have Hf := Lib.hid hf
  clear hxc hf
  go_enter Try.func52, Try.ntmps52
  by_cases hneg : left - (cs.length : Int) < 0
  · go_wp2_with fail
    go_ret
    exact ⟨-1, rfl, Or.inl rfl, Below.refl _ _⟩
  · go_wp2_with fail
    go_loopg [1, 5] cs.length (fun g s1 s5 wr => ∃ (k : Nat) (r : Int), k ≤ cs.length ∧ g = cs.length - k ∧ s5 = .int .i64 k ∧ s1 = .int .i64 r ∧ 0 ≤ r ∧ r ≤ left ∧ Below w.heap.size w wr ∧ Hid (∀ i, i < k → (cs.getD i clD).1.length ≤ 1048576))
    case atStart => exact ⟨0, _, Nat.zero_le _, rfl, rfl, rfl, by omega, by omega, Below.refl _ _, fun i hi => absurd hi (Nat.not_lt_zero _)⟩
    case round =>
      obtain ⟨k, r, hk, rfl, rfl, rfl, hr0, hr1, hb, hfit⟩ := hrel
      by_cases hlt : k < cs.length
      · obtain ⟨b, off, rfl, hc⟩ := Hxc.out (by omega)
        obtain ⟨a0, a1⟩ := hc k hlt
        have c0 := cell_below hb a0
        have c1 := cell_below hb a1
        have hI := (Hf.out k hlt).below hb
        generalize f k = d at c0 hI
        obtain ⟨X, hX⟩ : ∃ X, X = cs.getD k clD := ⟨_, rfl⟩
        rw [← hX] at c1 hI
        obtain ⟨Z, hZ⟩ : ∃ Z, Z = szI r X.1.length := ⟨_, rfl⟩
        have hz := szI_cases r X.1.length hr0
        have HcS := Lib.hid (fun w c h => szClass_any d X.1 c r w h hr0 (by omega))
        rw [← hZ] at hz HcS
        have HI := Lib.hid hI
        have HX := Lib.hid hX
        clear hc a0 a1 hI hX hZ
        go_wp2_with fail
        refine (HcS.out _ _ HI.out).mono ?_
        rintro e w1 ⟨rfl, hb1⟩
        rcases hz with hz | ⟨hz1, hz2, hz3⟩
        · subst hz
          go_wp2_with fail
          go_ret
          exact ⟨-1, rfl, Or.inl rfl, hb.trans (hb1.mono hb.size)⟩
        · have hz4 : ¬ Z < 0 := by omega
          go_wp2_with fail
          go_roundg (cs.length - (k + 1))
          case measure => omega
          case rel =>
            refine ⟨k + 1, Z, by omega, rfl, by go_num, rfl, hz1, by omega, hb.trans (hb1.mono hb.size), fun i hi => ?_⟩
            by_cases e : i = k
            · subst e; rw [← HX.out]; omega
            · exact hfit.out i (by omega)
      · obtain rfl : k = cs.length := by omega
        go_wp2_with fail
        go_ret
        exact ⟨r, rfl, Or.inr ⟨hr0, hr1, by omega, hfit.out⟩, hb⟩

theorem blk2 {w : World} {b : Nat} {x0 x1 : Value} {T : TypeId} (h : w.heap[b]? = some (.cells #[x0, x1] T (0, 0))) :
    w.cell? ⟨b, 0, none⟩ = some x0 ∧ w.cell? ⟨b, 1, none⟩ = some x1 ∧ (∀ j, w.frozen? ⟨b, j, none⟩ = false) ∧ b < w.heap.size :=
  ⟨cell_of_blk h rfl, cell_of_blk h rfl, free_of_blk h, blk_lt h⟩
theorem set2_all {w : World} {b : Nat} {x0 x1 : Value} {T : TypeId} (h : w.heap[b]? = some (.cells #[x0, x1] T (0, 0))) (y0 y1 : Value) :
    ((w.setCell ⟨b, 0, none⟩ y0).setCell ⟨b, 1, none⟩ y1).heap[b]? = some (.cells #[y0, y1] T (0, 0)) := by
  have e := heap_setCell_at (heap_setCell_at h 0 y0) 1 y1
  simpa using e

set_option maxRecDepth 100000 in
set_option maxHeartbeats 1000000 in
theorem toClass_any (d : Value) (xs : List Int) (c : Int) (w : World) (h : Ints w d xs) (hs : xs.length ≤ 1048576) :
    Calls Try.prog 79 #[.agg #[d, .int .i64 c]] w fun e w' => ∃ u, e = .returned (.agg #[u, .int .i64 c]) ∧ OwnI 3 w' w.heap.size w'.heap.size u xs ∧ Below w.heap.size w w' := by
  have Hh := Lib.hid h
  go_enter Try.func79, Try.ntmps79
  go_wp2_with fail
  refine (toIntS_any _ _ _ (Hh.out.below (below_alloc3 _ _ _ _)) hs).mono ?_
  rintro e w1 ⟨u, rfl, hu, hb⟩
  have b1 : w1.heap[w.heap.size]? = some (.cells #[d, .int .i64 c] 84) := by
    rw [hb.block _ (by simp; omega), heap_alloc_low _ _ (by simp; omega), heap_alloc_low _ _ (by simp)]; exact heap_alloc_top _ _
  have b2 : w1.heap[w.heap.size + 1]? = some (.cells #[.slice none 0 0, .int .i64 0] 85) := by
    rw [hb.block _ (by simp), heap_alloc_low _ _ (by simp)]; exact heap_alloc_at _ _ (by simp)
  have b3 : w1.heap[w.heap.size + 1 + 1]? = some (.cells #[.slice none 0 0, .int .i64 0] 85) := by
    rw [hb.block _ (by simp)]; exact heap_alloc_at _ _ (by simp)
  have hz : w.heap.size + 1 + 1 + 1 ≤ w1.heap.size := by have := hb.size; simpa using this
  have hbw : Below w.heap.size w w1 := (below_alloc3 _ _ _ _).trans (hb.mono (by simp; omega))
  have hu2 : OwnI 3 w1 (w.heap.size + 1 + 1 + 1) w1.heap.size u xs := hu.mono (by simp) (Nat.le_refl _)
  clear hb hu
  obtain ⟨c10, c11, c1f, hz1⟩ := blk2 b1
  obtain ⟨c20, c21, c2f, hz2⟩ := blk2 b2
  obtain ⟨c30, c31, c3f, hz3⟩ := blk2 b3
  obtain ⟨up, ucap, rfl, _, _⟩ := hu2.shape
  have B2 := Lib.hid b2
  have B3 := Lib.hid b3
  have Hu := Lib.hid hu2
  clear b1 b2 b3 h hu2
  go_wp2_with fail
  refine bodyPost_ret (v := .agg #[.slice up xs.length ucap, .int .i64 c]) (by simp [results, Try.results79, go_sem, c20, c21, hz2]) rfl ⟨_, rfl, ?_, ?_⟩
  · exact ((((Hu.out.setCell (.inl (by simp)) _).setCell (.inl (by simp)) _).setCell (.inl (by simp)) _).setCell (.inl (by simp)) _).mono (by omega) (Nat.le_of_eq (by simp only [size_setCell]))
  · exact (((hbw.setCell (by simp; omega) _).setCell (by simp; omega) _).setCell (by simp) _).setCell (by simp) _

theorem info_cls : (Try.prog.info? 85).map (fun i => (i.zero, i.size, i.bytes)) = some (some (.agg #[.slice none 0 0, .int .i64 0]), 2, 32) := by kernel_rfl
/-- make of structs -/
theorem run_make_S {P : Program} (t e : TypeId) (z : Value) (size bytes : Nat) (ht : P.underlying t = some (.slice e)) (hinfo : (P.info? e).map (fun i => (i.zero, i.size, i.bytes)) = some (some z, size, bytes)) (n : Nat) (hn : n ≤ 1048576) (hb : bytes ≤ 1000) (w : World) :
    (Instr.makeSlice t (.int .i64 (n : Int)) (.int .i64 (n : Int))).run P w = .ok (.slice (some ⟨w.heap.size, 0, none⟩) n n) (w.alloc (.cells (madeCells z.cells (n * size)) e)) := by
  obtain ⟨i, hi, hz, hsz, hby⟩ := info_partsS hinfo
  have hm : (i.bytes : Int) * (n : Int) ≤ 1000 * 1048576 := by
    have := Nat.mul_le_mul (show i.bytes ≤ 1000 by omega) hn
    have h2 : ((i.bytes * n : Nat) : Int) ≤ 1000 * 1048576 := by omega
    rwa [Int.natCast_mul] at h2
  have := run_make (P := P) w t e i z ht hi hz .i64 .i64 (n : Int) (n : Int) (by omega) (Int.le_refl _) (by omega) (by omega)
  rw [hsz] at this
  simpa using this
theorem made_S (w : World) (T : TypeId) (z0 z1 : Value) (n : Nat) (hn : n ≤ 1048576) : OwnS (w.alloc (.cells (madeCells #[z0, z1] (n * 2)) T)) w.heap.size (w.heap.size + 1) T 2 (.slice (some ⟨w.heap.size, 0, none⟩) n n) n (fun _ j => if j = 0 then z0 else z1) := by
  refine ⟨(madeCells #[z0, z1] (n * 2)).toList, ⟨⟨by simp [madeCells], .inr ⟨w.heap.size, n, _, rfl, Nat.le_refl _, heap_alloc_top _ _, Nat.le_refl _, by unfold maxLen; omega, by simp [madeCells], ?_⟩⟩, fun k hk => by simp [Value.ownBlock] at hk; omega⟩, fun i hi j hj => ?_⟩
  · rw [List.take_of_length_le (by simp [madeCells])]
  · have hlt : i * 2 + j < n * 2 := by omega
    have hm : (i * 2 + j) % 2 = j := by omega
    have hg : ∀ t, t < n * 2 → (madeCells #[z0, z1] (n * 2)).toList[t]? = some ((#[z0, z1] : Array Value)[t % 2]!) := fun t h => by simp [madeCells, h]
    rw [hg _ hlt, hm]
    have : j = 0 ∨ j = 1 := by omega
    rcases this with rfl | rfl <;> rfl

set_option maxRecDepth 100000 in
set_option maxHeartbeats 2000000 in
theorem toClassS_any (v : Value) (cs : List Cls) (w : World) (h : RdClA w v cs) (hfit : ClsFit cs) :
    Calls Try.prog 55 #[v] w fun e w' => ∃ u, e = .returned u ∧ OwnCl w' w.heap.size w'.heap.size u cs ∧ Below w.heap.size w w' := by
  obtain ⟨p, cap, f, rfl, ⟨hx1, hx⟩, hxc, hf⟩ := h
  obtain ⟨hn, hfi⟩ := hfit
  unfold maxLen at hx
  have Hxc := Lib.hid hxc
  have Hf := Lib.hid hf
  have Hfi := Lib.hid hfi
  have hmk := run_make_S (P := Try.prog) 45 85 _ 2 32 Try.underlying45 info_cls cs.length hn (by omega)
  have Hmd := Lib.hid (made_S w 85 (.slice none 0 0) (.int .i64 0) cs.length hn)
  clear hxc hf hfi
  go_enter Try.func55, Try.ntmps55
  go_wp2_with fail
  clear hmk
  obtain ⟨W0, hW0⟩ : ∃ x, x = w.alloc (.cells (madeCells #[.slice none 0 0, .int .i64 0] (cs.length * 2)) 85) := ⟨_, rfl⟩
  have hs0 : W0.heap.size = w.heap.size + 1 := by rw [hW0, size_alloc]
  have Hb0 := Lib.hid (show Below w.heap.size w W0 by rw [hW0]; exact below_alloc _ _)
  have hmd := Hmd.out
  rw [← hW0] at hmd ⊢
  have Hm0 := Lib.hid hmd
  clear hW0 hmd Hmd
  go_loopg [4] cs.length (fun gg s4 wr => ∃ k : Nat, k ≤ cs.length ∧ gg = cs.length - k ∧ s4 = .int .i64 k ∧ Below w.heap.size w wr ∧
    w.heap.size + 1 ≤ wr.heap.size ∧ Hid (∃ g : Nat → Value, OwnS wr w.heap.size (w.heap.size + 1) 85 2 (.slice (some ⟨w.heap.size, 0, none⟩) cs.length cs.length) cs.length (fun i j => if i < k then clF cs g i j else if j = 0 then .slice none 0 0 else .int .i64 0) ∧ ∀ i, i < k → OwnI 3 wr (w.heap.size + 1) wr.heap.size (g i) (cs.getD i clD).1))
  case atStart => exact ⟨0, Nat.zero_le _, rfl, rfl, Hb0.out, by omega, ⟨fun _ => undef, Hm0.out.congr fun i hi j hj => by simp, fun i hi => absurd hi (Nat.not_lt_zero _)⟩⟩
  case round =>
    obtain ⟨k, hk, rfl, rfl, hb, hsb, hg⟩ := hrel
    obtain ⟨g, hS, hR⟩ := hg.out
    clear hg
    by_cases hlt : k < cs.length
    · obtain ⟨b, off, rfl, hc⟩ := Hxc.out (by omega)
      obtain ⟨a0, a1⟩ := hc k hlt
      have c0 := cell_below hb a0
      have c1 := cell_below hb a1
      have hI := (Hf.out k hlt).below hb
      have hfk := Hfi.out k hlt
      generalize f k = d at c0 hI
      obtain ⟨X, hX⟩ : ∃ X, X = cs.getD k clD := ⟨_, rfl⟩
      rw [← hX] at c1 hI hfk
      have HcS := Lib.hid (toClass_any d X.1 X.2 wr hI hfk)
      have HX := Lib.hid hX
      have HS := Lib.hid hS
      have HR := Lib.hid hR
      have hgb := (hS.blocks w.heap.size rfl)
      have hbs : w.heap.size < wr.heap.size := by omega
      clear hc a0 a1 hI hX hS hR hfk hgb
      go_wp2_with fail
      refine HcS.out.mono ?_
      rintro e w1 ⟨u, rfl, ho, hb1⟩
      obtain ⟨pu, ku, eu, _, _⟩ := ho.shape
      have Heu := Lib.hid eu
      rw [eu]
      clear eu
      have hS1 := HS.out.below hb1
      have d0 := hS1.cell hlt (show 0 < 2 by omega)
      have d1 := hS1.cell hlt (show 1 < 2 by omega)
      have z0 := hS1.frozen (k * 2)
      have z1 := hS1.frozen (k * 2 + 1)
      rw [Nat.add_zero] at d0
      obtain ⟨y0, d0⟩ : ∃ y, w1.cell? ⟨w.heap.size, k * 2, none⟩ = some y := ⟨_, d0⟩
      obtain ⟨y1, d1⟩ : ∃ y, w1.cell? ⟨w.heap.size, k * 2 + 1, none⟩ = some y := ⟨_, d1⟩
      have hS2 := (hS1.set hlt (show 0 < 2 by omega) (.slice pu X.1.length ku)).set hlt (show 1 < 2 by omega) (.int .i64 X.2)
      rw [Nat.add_zero] at hS2
      have HS2 := Lib.hid hS2
      have Ho := Lib.hid ho
      have Hb1 := Lib.hid hb1
      clear hS1 hS2 ho hb1
      go_wp2_with fail
      go_roundg (cs.length - (k + 1))
      case measure => omega
      case rel =>
        have hs1 := Hb1.out.size
        refine ⟨k + 1, by omega, rfl, by go_num, ((hb.trans (Hb1.out.mono hb.size)).setCell (p := ⟨w.heap.size, k * 2, none⟩) (Nat.le_refl _) (.slice pu X.1.length ku)).setCell (p := ⟨w.heap.size, k * 2 + 1, none⟩) (Nat.le_refl _) (.int .i64 X.2), by simp only [size_setCell]; omega, ⟨fun i => if i = k then u else g i, HS2.out.congr fun i hi j hj => ?_, fun i hi => ?_⟩⟩
        · by_cases e : i = k
          · subst e
            have : j = 0 ∨ j = 1 := by omega
            rcases this with rfl | rfl
            · simp [clF, Heu.out]
            · simp [clF, HX.out]
          · simp only [e, false_and, if_false]
            by_cases h1 : i < k
            · rw [if_pos h1, if_pos (show i < k + 1 by omega)]
              unfold clF
              have : j = 0 ∨ j = 1 := by omega
              rcases this with rfl | rfl <;> simp [e]
            · rw [if_neg h1, if_neg (show ¬ i < k + 1 by omega)]
        · simp only [size_setCell]
          by_cases e : i = k
          · subst e
            simp only [if_true]
            rw [← HX.out]
            exact ((Ho.out.mono (show w.heap.size + 1 ≤ wr.heap.size by omega) (Nat.le_refl _)).setCell (.inl (Nat.lt_succ_self _)) _).setCell (.inl (Nat.lt_succ_self _)) _
          · simp only [e, if_false]
            exact (((HR.out i (by omega)).below Hb1.out).mono (Nat.le_refl _) hs1 |>.setCell (.inl (Nat.lt_succ_self _)) _).setCell (.inl (Nat.lt_succ_self _)) _
    · obtain rfl : k = cs.length := by omega
      have HS := Lib.hid hS
      have HR := Lib.hid hR
      clear hS hR
      go_wp2_with fail
      go_ret
      exact ⟨_, rfl, ⟨g, (HS.out.mono (Nat.le_refl _) (by have := Hb0.out.size; have := hb.size; have := hsb; omega)).congr fun i hi j hj => by rw [if_pos hi], fun i hi => (HR.out i hi).mono (by omega) (Nat.le_refl _)⟩, hb⟩

set_option maxRecDepth 100000 in
set_option maxHeartbeats 1000000 in
theorem eqClass_same (d d' : Value) (xs : List Int) (c : Int) (w : World) (h : Ints w d xs) (h' : Ints w d' xs) :
    Calls Try.prog 85 #[.agg #[d, .int .i64 c], .agg #[d', .int .i64 c]] w fun e w' => e = .returned (.bool true) ∧ Below w.heap.size w w' := by
  have Hn := Lib.hid fun o o' => eqIntS_same d d' xs ((w.alloc o).alloc o') (h.below (below_alloc2 w o o')) (h'.below (below_alloc2 w o o'))
  have hz : (c != c) = false := by simp
  have Z0 := Lib.hid (fun o => heap_alloc_top w o)
  go_enter Try.func85, Try.ntmps85
  go_wp2_with fail
  refine (Hn.out _ _).mono ?_
  rintro e w1 ⟨rfl, hb⟩
  have b1 : w1.heap[w.heap.size]? = some (.cells #[d, .int .i64 c] 85) := by
    rw [hb.block _ (by simp; omega), heap_alloc_low _ _ (by simp)]; exact heap_alloc_top _ _
  have b2 : w1.heap[w.heap.size + 1]? = some (.cells #[d', .int .i64 c] 85) := by
    rw [hb.block _ (by simp)]; exact heap_alloc_at _ _ (by simp)
  obtain ⟨c10, c11, c1f, hz1⟩ := blk2 b1
  obtain ⟨c20, c21, c2f, hz2⟩ := blk2 b2
  have Hb := Lib.hid ((below_alloc2 w (.cells #[d, .int .i64 c] 85) (.cells #[d', .int .i64 c] 85)).trans (hb.mono (by simp; omega)))
  clear b1 b2 hb
  go_wp2_with fail
  go_ret
  exact ⟨rfl, Hb.out⟩

theorem keep4w {wr W W' : World} {a0 a1 a2 a3 : Addr} {v0 v1 v2 v3 : Value} (hb : Below W.heap.size W W') (h : (W.cell? a0 = some v0 ∧ W.cell? a1 = some v1 ∧ W.cell? a2 = some v2 ∧ W.cell? a3 = some v3) ∧ Below wr.heap.size wr W) :
    (W'.cell? a0 = some v0 ∧ W'.cell? a1 = some v1 ∧ W'.cell? a2 = some v2 ∧ W'.cell? a3 = some v3) ∧ Below wr.heap.size wr W' :=
  ⟨⟨cell_below hb h.1.1, cell_below hb h.1.2.1, cell_below hb h.1.2.2.1, cell_below hb h.1.2.2.2⟩, below_trans h.2 hb⟩

set_option maxRecDepth 100000 in
set_option maxHeartbeats 1000000 in
theorem eqClassS_same (v1 v2 : Value) (cs : List Cls) (w : World) (h1 : RdCl w v1 cs) (h2 : RdCl w v2 cs) :
    Calls Try.prog 58 #[v1, v2] w fun e w' => e = .returned (.bool true) ∧ Below w.heap.size w w' := by
  obtain ⟨f, hs1, hf⟩ := h1
  obtain ⟨g, hs2, hg⟩ := h2
  obtain ⟨p, cap, rfl, ⟨hx1, hx⟩, hxc⟩ := hs1.two
  obtain ⟨q, cap', rfl, ⟨hy1, hy⟩, hyc⟩ := hs2.two
  unfold maxLen at hx hy
  have Hf := Lib.hid hf
  have Hg := Lib.hid hg
  have Hxc := Lib.hid hxc
  have Hyc := Lib.hid hyc
  clear hf hg hs1 hs2 hxc hyc
  go_enter Try.func58, Try.ntmps58
  go_wp2
  go_loopg [5] cs.length (fun n i wr => ∃ k : Nat, k ≤ cs.length ∧ n = cs.length - k ∧ i = .int .i64 k ∧ Below w.heap.size w wr)
  case atStart => exact ⟨0, Nat.zero_le _, rfl, rfl, Below.refl _ _⟩
  case round =>
    obtain ⟨k, hk, rfl, rfl, hb⟩ := hrel
    by_cases hlt : k < cs.length
    · obtain ⟨b, rfl, hc⟩ := Hxc.out (by omega)
      obtain ⟨b', rfl, hc'⟩ := Hyc.out (by omega)
      obtain ⟨a0, a1⟩ := hc k hlt
      obtain ⟨b0, b1⟩ := hc' k hlt
      have c0 := cell_below hb a0
      have c1 := cell_below hb a1
      have d0 := cell_below hb b0
      have d1 := cell_below hb b1
      obtain ⟨p1, k1, e1, _, _⟩ := Hf.out k hlt
      obtain ⟨p2, k2, e2, _, _⟩ := Hg.out k hlt
      have I1 := Lib.hid ((Hf.out k hlt).below hb)
      have I2 := Lib.hid ((Hg.out k hlt).below hb)
      generalize cs.getD k clD = M at *
      obtain ⟨ys, c⟩ := M
      dsimp only at e1 e2 c1 d1 I1 I2
      rw [e1] at c0 I1
      rw [e2] at d0 I2
      clear hc hc' e1 e2 a0 a1 b0 b1
      go_wp2_with fail
      obtain ⟨wo, rfl⟩ : ∃ x : World, x = wr := ⟨_, rfl⟩
      go_region_held3 (fun w' => (w'.cell? ⟨b, k * 2, none⟩ = some (.slice p1 ys.length k1) ∧ w'.cell? ⟨b, k * 2 + 1, none⟩ = some (.int .i64 c) ∧ w'.cell? ⟨b', k * 2, none⟩ = some (.slice p2 ys.length k2) ∧ w'.cell? ⟨b', k * 2 + 1, none⟩ = some (.int .i64 c)) ∧ Below wo.heap.size wo w')
        (first | exact ⟨⟨c0, c1, d0, d1⟩, (Below.refl _ _).drew⟩ | exact keep4w hb1 (by assumption))
        (first
          | (go_at_call 85; refine (eqClass_same _ _ ys c _ (held_ints I1.out (by assumption)) (held_ints I2.out (by assumption))).mono ?_; rintro e w' ⟨rfl, hb1⟩))
      have hbw : Below wo.heap.size wo _ := held_below (by assumption)
      go_wp2_with fail
      go_roundg (cs.length - (k + 1))
      case measure => omega
      case rel => exact ⟨k + 1, by omega, rfl, by go_num, hb.trans (hbw.mono hb.size)⟩
    · go_wp2
      go_ret
      exact ⟨rfl, hb⟩

end Go.Proofs.Ytejoapielndnnaa
