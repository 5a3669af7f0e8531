/-
  Slices of classes: copied, measured, compared by the law's own helpers.
  Classes in their order: the list that insertion makes is the only one. Plain.
  Values taken apart, from short permutations to long ones. Plain.
  Go's stable sort as it runs, over arrays: the model. Plain.
  Worlds of a sort whose closure may make memory, whatever was drawn: what the walks want of them.
  Go's stable sort of numbers by a closure that may make memory: what its parts leave.
-/
import Derived.Test.YtajmoclnmphmgaaJ11
import Derived.Test.YtajmoclnmphmgaaJ4
import Derived.Test.YtajmoclnmphmgaaJ5
import Derived.Test.YtajmoclnmphmgaaJ10
import Derived.Test.YtajmoclnmphmgaaJ9
import Derived.Shelf.SlSortCmp.Insertion1
import Derived.Test.YtajmoclnmphmgaaJ8
import Derived.Test.YtajmoclnmphmgaaShelf
namespace Go.Proofs.Ytajmoclnmphmgaa
set_option linter.all false
open Go.RowKit

abbrev Cls := List Int × Int
def clD : Cls := ([], 0)
/-- the fields of classes, the permutations' slices being f -/
def clF (cs : List Cls) (f : Nat → Value) (i j : Nat) : Value :=
  match j with
  | 0 => f i
  | _ => .int .i64 (cs.getD i clD).2
/-- classes that can be read, at the head of a block -/
def RdCl (w : World) (v : Value) (cs : List Cls) : Prop := ∃ f, RdS w 2 v cs.length (clF cs f) ∧ ∀ i, i < cs.length → Ints w (f i) (cs.getD i clD).1
theorem RdCl.below {w w' : World} {v : Value} {cs : List Cls} (h : RdCl w v cs) (hb : Below w.heap.size w w') : RdCl w' v cs := by
  obtain ⟨f, h1, h2⟩ := h
  exact ⟨f, h1.below hb, fun i hi => (h2 i hi).below hb⟩
theorem RdS.two {w : World} {v : Value} {cs : List Cls} {f : Nat → Value} (h : RdS w 2 v cs.length (clF cs f)) : ∃ p cap, v = .slice p cs.length cap ∧ (cs.length ≤ cap ∧ cap ≤ maxLen) ∧
    (0 < cs.length → ∃ b, p = some ⟨b, 0, none⟩ ∧ ∀ i, i < cs.length → w.cell? ⟨b, i * 2, none⟩ = some (f i) ∧ w.cell? ⟨b, i * 2 + 1, none⟩ = some (.int .i64 (cs.getD i clD).2)) := by
  obtain ⟨p, cap, rfl, hm, h⟩ := h
  refine ⟨p, cap, rfl, hm, fun h0 => ?_⟩
  obtain ⟨b, hp, hx⟩ := h h0
  exact ⟨b, hp, fun i hi => ⟨hx i hi 0 (by omega), hx i hi 1 (by omega)⟩⟩
/-- classes that a call made -/
def OwnCl (w : World) (lo hi : Nat) (v : Value) (cs : List Cls) : Prop :=
  ∃ g, OwnS w lo hi 41 2 v cs.length (clF cs g) ∧ ∀ i, i < cs.length → OwnI 3 w lo hi (g i) (cs.getD i clD).1
theorem OwnCl.rd {w : World} {lo hi : Nat} {v : Value} {cs : List Cls} (h : OwnCl w lo hi v cs) : RdCl w v cs := by
  obtain ⟨g, h1, h2⟩ := h
  exact ⟨g, h1.rd, fun i hi => (h2 i hi).ints⟩
theorem OwnCl.below {w w' : World} {lo hi : Nat} {v : Value} {cs : List Cls} (h : OwnCl w lo hi v cs) (hb : Below w.heap.size w w') : OwnCl w' lo hi v cs := by
  obtain ⟨g, h1, h2⟩ := h
  exact ⟨g, h1.below hb, fun i hi => (h2 i hi).below hb⟩
theorem OwnCl.mono {w : World} {lo hi lo' hi' : Nat} {v : Value} {cs : List Cls} (h : OwnCl w lo hi v cs) (a : lo' ≤ lo) (b : hi ≤ hi') : OwnCl w lo' hi' v cs := by
  obtain ⟨g, h1, h2⟩ := h
  exact ⟨g, h1.mono a b, fun i hi => (h2 i hi).mono a b⟩
theorem OwnCl.setCell {w : World} {lo hi : Nat} {v : Value} {cs : List Cls} (h : OwnCl w lo hi v cs) {a : Addr} (ho : a.block < lo ∨ hi ≤ a.block) (u : Value) : OwnCl (w.setCell a u) lo hi v cs := by
  obtain ⟨g, h1, h2⟩ := h
  exact ⟨g, h1.setCell ho u, fun i hi => (h2 i hi).setCell ho u⟩
theorem OwnCl.shape {w : World} {lo hi : Nat} {v : Value} {cs : List Cls} (h : OwnCl w lo hi v cs) : ∃ p cap, v = .slice p cs.length cap ∧ cs.length ≤ cap ∧ cap ≤ maxLen := by
  obtain ⟨g, h1, _⟩ := h
  obtain ⟨p, cap, e, h2, h3, _⟩ := h1.shape
  exact ⟨p, cap, e, h2, h3⟩
/-- classes that came in, wherever they lie -/
def RdClA (w : World) (v : Value) (cs : List Cls) : Prop :=
  ∃ (p : Option Addr) (cap : Nat) (f : Nat → Value), v = .slice p cs.length cap ∧ (cs.length ≤ cap ∧ cap ≤ maxLen) ∧
    (0 < cs.length → ∃ b off, p = some ⟨b, off, none⟩ ∧ ∀ i, i < cs.length → w.cell? ⟨b, off + i * 2, none⟩ = some (f i) ∧ w.cell? ⟨b, off + i * 2 + 1, none⟩ = some (.int .i64 (cs.getD i clD).2)) ∧
    ∀ i, i < cs.length → Ints w (f i) (cs.getD i clD).1
theorem RdClA.below {w w' : World} {v : Value} {cs : List Cls} (h : RdClA w v cs) (hb : Below w.heap.size w w') : RdClA w' v cs := by
  obtain ⟨p, cap, f, e, h1, h2, h3⟩ := h
  refine ⟨p, cap, f, e, h1, fun h0 => ?_, fun i hi => (h3 i hi).below hb⟩
  obtain ⟨b, off, hp, hx⟩ := h2 h0
  exact ⟨b, off, hp, fun i hi => ⟨cell_below hb (hx i hi).1, cell_below hb (hx i hi).2⟩⟩

/-- none of the lists is too long -/
def ClsFit (cs : List Cls) : Prop := cs.length ≤ 1048576 ∧ ∀ i, i < cs.length → (cs.getD i clD).1.length ≤ 1048576

theorem szI_cases (left : Int) (n : Nat) (h0 : 0 ≤ left) : szI left n = -1 ∨ (0 ≤ szI left n ∧ szI left n ≤ left ∧ (n : Int) ≤ left) := by
  unfold szI; split <;> omega

theorem blk2 {w : World} {b : Nat} {x0 x1 : Value} {T : TypeId} (h : w.heap[b]? = some (.cells #[x0, x1] T (0, 0))) :
    w.cell? ⟨b, 0, none⟩ = some x0 ∧ w.cell? ⟨b, 1, none⟩ = some x1 ∧ (∀ j, w.frozen? ⟨b, j, none⟩ = false) ∧ b < w.heap.size :=
  ⟨cell_of_blk h rfl, cell_of_blk h rfl, free_of_blk h, blk_lt h⟩
theorem set2_all {w : World} {b : Nat} {x0 x1 : Value} {T : TypeId} (h : w.heap[b]? = some (.cells #[x0, x1] T (0, 0))) (y0 y1 : Value) :
    ((w.setCell ⟨b, 0, none⟩ y0).setCell ⟨b, 1, none⟩ y1).heap[b]? = some (.cells #[y0, y1] T (0, 0)) := by
  have e := heap_setCell_at (heap_setCell_at h 0 y0) 1 y1
  simpa using e

theorem info_cls : (Try.prog.info? 41).map (fun i => (i.zero, i.size, i.bytes)) = some (some (.agg #[.slice none 0 0, .int .i64 0]), 2, 32) := by kernel_rfl
/-- make of structs -/
theorem run_make_S {P : Program} (t e : TypeId) (z : Value) (size bytes : Nat) (ht : P.underlying t = some (.slice e)) (hinfo : (P.info? e).map (fun i => (i.zero, i.size, i.bytes)) = some (some z, size, bytes)) (n : Nat) (hn : n ≤ 1048576) (hb : bytes ≤ 1000) (w : World) :
    (Instr.makeSlice t (.int .i64 (n : Int)) (.int .i64 (n : Int))).run P w = .ok (.slice (some ⟨w.heap.size, 0, none⟩) n n) (w.alloc (.cells (madeCells z.cells (n * size)) e)) := by
  obtain ⟨i, hi, hz, hsz, hby⟩ := info_partsS hinfo
  have hm : (i.bytes : Int) * (n : Int) ≤ 1000 * 1048576 := by
    have := Nat.mul_le_mul (show i.bytes ≤ 1000 by omega) hn
    have h2 : ((i.bytes * n : Nat) : Int) ≤ 1000 * 1048576 := by omega
    rwa [Int.natCast_mul] at h2
  have := run_make (P := P) w t e i z ht hi hz .i64 .i64 (n : Int) (n : Int) (by omega) (Int.le_refl _) (by omega) (by omega)
  rw [hsz] at this
  simpa using this
theorem made_S (w : World) (T : TypeId) (z0 z1 : Value) (n : Nat) (hn : n ≤ 1048576) : OwnS (w.alloc (.cells (madeCells #[z0, z1] (n * 2)) T)) w.heap.size (w.heap.size + 1) T 2 (.slice (some ⟨w.heap.size, 0, none⟩) n n) n (fun _ j => if j = 0 then z0 else z1) := by
  refine ⟨(madeCells #[z0, z1] (n * 2)).toList, ⟨⟨by simp [madeCells], .inr ⟨w.heap.size, n, _, rfl, Nat.le_refl _, heap_alloc_top _ _, Nat.le_refl _, by unfold maxLen; omega, by simp [madeCells], ?_⟩⟩, fun k hk => by simp [Value.ownBlock] at hk; omega⟩, fun i hi j hj => ?_⟩
  · rw [List.take_of_length_le (by simp [madeCells])]
  · have hlt : i * 2 + j < n * 2 := by omega
    have hm : (i * 2 + j) % 2 = j := by omega
    have hg : ∀ t, t < n * 2 → (madeCells #[z0, z1] (n * 2)).toList[t]? = some ((#[z0, z1] : Array Value)[t % 2]!) := fun t h => by simp [madeCells, h]
    rw [hg _ hlt, hm]
    have : j = 0 ∨ j = 1 := by omega
    rcases this with rfl | rfl <;> rfl

set_option maxRecDepth 100000 in
set_option maxHeartbeats 1000000 in
theorem eqClass_same (d d' : Value) (xs : List Int) (c : Int) (w : World) (h : Ints w d xs) (h' : Ints w d' xs) :
    Calls Try.prog 36 #[.agg #[d, .int .i64 c], .agg #[d', .int .i64 c]] w fun e w' => e = .returned (.bool true) ∧ Below w.heap.size w w' := by
  have Hn := Lib.hid fun o o' => eqIntS_same d d' xs ((w.alloc o).alloc o') (h.below (below_alloc2 w o o')) (h'.below (below_alloc2 w o o'))
  have hz : (c != c) = false := by simp
  have Z0 := Lib.hid (fun o => heap_alloc_top w o)
  go_enter Try.func36, Try.ntmps36
  go_wp2_with fail
  refine (Hn.out _ _).mono ?_
  rintro e w1 ⟨rfl, hb⟩
  have b1 : w1.heap[w.heap.size]? = some (.cells #[d, .int .i64 c] 41) := by
    rw [hb.block _ (by simp; omega), heap_alloc_low _ _ (by simp)]; exact heap_alloc_top _ _
  have b2 : w1.heap[w.heap.size + 1]? = some (.cells #[d', .int .i64 c] 41) := by
    rw [hb.block _ (by simp)]; exact heap_alloc_at _ _ (by simp)
  obtain ⟨c10, c11, c1f, hz1⟩ := blk2 b1
  obtain ⟨c20, c21, c2f, hz2⟩ := blk2 b2
  have Hb := Lib.hid ((below_alloc2 w (.cells #[d, .int .i64 c] 41) (.cells #[d', .int .i64 c] 41)).trans (hb.mono (by simp; omega)))
  clear b1 b2 hb
  go_wp2_with fail
  go_ret
  exact ⟨rfl, Hb.out⟩

theorem keep4w {wr W W' : World} {a0 a1 a2 a3 : Addr} {v0 v1 v2 v3 : Value} (hb : Below W.heap.size W W') (h : (W.cell? a0 = some v0 ∧ W.cell? a1 = some v1 ∧ W.cell? a2 = some v2 ∧ W.cell? a3 = some v3) ∧ Below wr.heap.size wr W) :
    (W'.cell? a0 = some v0 ∧ W'.cell? a1 = some v1 ∧ W'.cell? a2 = some v2 ∧ W'.cell? a3 = some v3) ∧ Below wr.heap.size wr W' :=
  ⟨⟨cell_below hb h.1.1, cell_below hb h.1.2.1, cell_below hb h.1.2.2.1, cell_below hb h.1.2.2.2⟩, below_trans h.2 hb⟩

set_option maxRecDepth 100000 in
set_option maxHeartbeats 1000000 in
theorem eqClassS_same (v1 v2 : Value) (cs : List Cls) (w : World) (h1 : RdCl w v1 cs) (h2 : RdCl w v2 cs) :
    Calls Try.prog 10 #[v1, v2] w fun e w' => e = .returned (.bool true) ∧ Below w.heap.size w w' := by
  obtain ⟨f, hs1, hf⟩ := h1
  obtain ⟨g, hs2, hg⟩ := h2
  obtain ⟨p, cap, rfl, ⟨hx1, hx⟩, hxc⟩ := hs1.two
  obtain ⟨q, cap', rfl, ⟨hy1, hy⟩, hyc⟩ := hs2.two
  unfold maxLen at hx hy
  have Hf := Lib.hid hf
  have Hg := Lib.hid hg
  have Hxc := Lib.hid hxc
  have Hyc := Lib.hid hyc
  clear hf hg hs1 hs2 hxc hyc
  go_enter Try.func10, Try.ntmps10
  go_wp2
  go_loopg [5] cs.length (fun n i wr => ∃ k : Nat, k ≤ cs.length ∧ n = cs.length - k ∧ i = .int .i64 k ∧ Below w.heap.size w wr)
  case atStart => exact ⟨0, Nat.zero_le _, rfl, rfl, Below.refl _ _⟩
  case round =>
    obtain ⟨k, hk, rfl, rfl, hb⟩ := hrel
    by_cases hlt : k < cs.length
    · obtain ⟨b, rfl, hc⟩ := Hxc.out (by omega)
      obtain ⟨b', rfl, hc'⟩ := Hyc.out (by omega)
      obtain ⟨a0, a1⟩ := hc k hlt
      obtain ⟨b0, b1⟩ := hc' k hlt
      have c0 := cell_below hb a0
      have c1 := cell_below hb a1
      have d0 := cell_below hb b0
      have d1 := cell_below hb b1
      obtain ⟨p1, k1, e1, _, _⟩ := Hf.out k hlt
      obtain ⟨p2, k2, e2, _, _⟩ := Hg.out k hlt
      have I1 := Lib.hid ((Hf.out k hlt).below hb)
      have I2 := Lib.hid ((Hg.out k hlt).below hb)
      generalize cs.getD k clD = M at *
      obtain ⟨ys, c⟩ := M
      dsimp only at e1 e2 c1 d1 I1 I2
      rw [e1] at c0 I1
      rw [e2] at d0 I2
      clear hc hc' e1 e2 a0 a1 b0 b1
      go_wp2_with fail
      obtain ⟨wo, rfl⟩ : ∃ x : World, x = wr := ⟨_, rfl⟩
      go_region_held3 (fun w' => (w'.cell? ⟨b, k * 2, none⟩ = some (.slice p1 ys.length k1) ∧ w'.cell? ⟨b, k * 2 + 1, none⟩ = some (.int .i64 c) ∧ w'.cell? ⟨b', k * 2, none⟩ = some (.slice p2 ys.length k2) ∧ w'.cell? ⟨b', k * 2 + 1, none⟩ = some (.int .i64 c)) ∧ Below wo.heap.size wo w')
        (first | exact ⟨⟨c0, c1, d0, d1⟩, (Below.refl _ _).drew⟩ | exact keep4w hb1 (by assumption))
        (first
          | (go_at_call 36; refine (eqClass_same _ _ ys c _ (held_ints I1.out (by assumption)) (held_ints I2.out (by assumption))).mono ?_; rintro e w' ⟨rfl, hb1⟩))
      have hbw : Below wo.heap.size wo _ := held_below (by assumption)
      go_wp2_with fail
      go_roundg (cs.length - (k + 1))
      case measure => omega
      case rel => exact ⟨k + 1, by omega, rfl, by go_num, hb.trans (hbw.mono hb.size)⟩
    · go_wp2
      go_ret
      exact ⟨rfl, hb⟩

end Go.Proofs.Ytajmoclnmphmgaa

namespace Go.Proofs.Ytajmoclnmphmgaa
set_option linter.all false
open Go.RowKit

theorem ltB_irrefl : ∀ xs, ltB xs xs = false
  | [] => rfl
  | x :: xs => by unfold ltB; rw [if_neg (by omega), if_neg (by omega)]; exact ltB_irrefl xs
theorem ltB_total : ∀ xs ys, ltB xs ys = false → ltB ys xs = false → xs = ys
  | [], [], _, _ => rfl
  | [], _ :: _, h, _ => by simp [ltB] at h
  | _ :: _, [], _, h => by simp [ltB] at h
  | x :: xs, y :: ys, h1, h2 => by
    unfold ltB at h1 h2
    by_cases a : x < y
    · rw [if_pos a] at h1; cases h1
    · by_cases b : y < x
      · rw [if_pos b] at h2; cases h2
      · rw [if_neg a, if_neg b] at h1
        rw [if_neg b, if_neg a] at h2
        rw [ltB_total xs ys h1 h2, show x = y by omega]
theorem ltB_trans : ∀ xs ys zs, ltB xs ys = true → ltB ys zs = true → ltB xs zs = true
  | [], _, [], h1, h2 => by
    rename_i ys
    cases ys with
    | nil => simp [ltB] at h1
    | cons y ys => simp [ltB] at h2
  | [], _, _ :: _, _, _ => rfl
  | x :: xs, [], _, h1, _ => by simp [ltB] at h1
  | x :: xs, y :: ys, [], _, h2 => by simp [ltB] at h2
  | x :: xs, y :: ys, z :: zs, h1, h2 => by
    unfold ltB at h1 h2 ⊢
    by_cases a : x < y
    · by_cases b : y < z
      · rw [if_pos (by omega)]
      · rw [if_neg b] at h2
        by_cases c : z < y
        · rw [if_pos c] at h2; cases h2
        · rw [if_pos (by omega)]
    · rw [if_neg a] at h1
      by_cases a2 : y < x
      · rw [if_pos a2] at h1; cases h1
      · rw [if_neg a2] at h1
        by_cases b : y < z
        · rw [if_pos (by omega)]
        · rw [if_neg b] at h2
          by_cases c : z < y
          · rw [if_pos c] at h2; cases h2
          · rw [if_neg c] at h2
            rw [if_neg (by omega), if_neg (by omega)]
            exact ltB_trans xs ys zs h1 h2
theorem ltB_ntrans (xs ys zs : List Int) (h1 : ltB xs ys = false) (h2 : ltB ys zs = false) : ltB xs zs = false := by
  cases h : ltB xs zs with
  | false => rfl
  | true =>
    exfalso
    cases a : ltB ys xs with
    | true => rw [ltB_trans _ _ _ a h] at h2; cases h2
    | false =>
      rw [ltB_total _ _ h1 a] at h
      rw [h] at h2; cases h2
theorem ltB_asym {xs ys : List Int} (h : ltB xs ys = true) : ltB ys xs = false := by
  cases a : ltB ys xs with
  | false => rfl
  | true => have := ltB_trans _ _ _ h a; rw [ltB_irrefl] at this; cases this
theorem cmpB_neg (xs ys : List Int) : decide (cmpB xs ys < 0) = ltB xs ys := by
  have := cmpB_lt xs ys
  by_cases h : 0 ≤ cmpB xs ys
  · rw [decide_eq_true h] at this
    rw [decide_eq_false (by omega)]
    cases hl : ltB xs ys with
    | false => rfl
    | true => rw [hl] at this; cases this
  · rw [decide_eq_false h] at this
    rw [decide_eq_true (by omega)]
    cases hl : ltB xs ys with
    | false => rw [hl] at this; cases this
    | true => rfl

/-- put in where it belongs -/
def insC (c : Cls) : List Cls → List Cls
  | [] => [c]
  | x :: l => if ltB x.1 c.1 then x :: insC c l else c :: x :: l
def srtC (cs : List Cls) : List Cls := cs.foldl (fun l c => insC c l) []
theorem insC_perm (c : Cls) : ∀ l, (insC c l).Perm (c :: l)
  | [] => List.Perm.refl _
  | x :: l => by
    rw [insC]
    split
    · exact ((insC_perm c l).cons x).trans (List.Perm.swap c x l)
    · exact List.Perm.refl _
theorem insC_fold_perm : ∀ (cs acc : List Cls), (cs.foldl (fun l c => insC c l) acc).Perm (cs ++ acc)
  | [], acc => List.Perm.refl _
  | c :: cs, acc => by
    rw [List.foldl_cons]
    exact (insC_fold_perm cs _).trans (((insC_perm c acc).append_left cs).trans (List.perm_middle))
theorem srtC_perm (cs : List Cls) : (srtC cs).Perm cs := by
  have := insC_fold_perm cs []
  rw [List.append_nil] at this
  exact this
def AscC (cs : List Cls) : Prop := cs.Pairwise fun a b => ltB a.1 b.1 = true
theorem insC_asc {c : Cls} : ∀ {l : List Cls}, AscC l → (∀ x ∈ l, x.1 ≠ c.1) → AscC (insC c l)
  | [], _, _ => List.pairwise_singleton _ _
  | x :: l, h, hn => by
    obtain ⟨h1, h2⟩ := List.pairwise_cons.1 h
    rw [insC]
    by_cases e : ltB x.1 c.1 = true
    · rw [if_pos e]
      refine List.pairwise_cons.2 ⟨fun y hy => ?_, insC_asc h2 fun y hy => hn y (List.mem_cons_of_mem _ hy)⟩
      rcases List.mem_cons.1 ((insC_perm c l).mem_iff.1 hy) with rfl | hy
      · exact e
      · exact h1 y hy
    · rw [if_neg e]
      have e2 : ltB c.1 x.1 = true := by
        cases a : ltB c.1 x.1 with
        | true => rfl
        | false => exact absurd (ltB_total _ _ (by simpa using e) a) (hn x List.mem_cons_self)
      refine List.pairwise_cons.2 ⟨fun y hy => ?_, h⟩
      rcases List.mem_cons.1 hy with rfl | hy
      · exact e2
      · exact ltB_trans _ _ _ e2 (h1 y hy)
theorem fold_asc : ∀ (cs acc : List Cls), AscC acc → ((cs ++ acc).map (·.1)).Nodup → AscC (cs.foldl (fun l c => insC c l) acc)
  | [], acc, h, _ => h
  | c :: cs, acc, h, hn => by
    rw [List.foldl_cons]
    have hn' := hn
    rw [List.cons_append, List.map_cons, List.nodup_cons] at hn'
    refine fold_asc cs _ (insC_asc h fun x hx e => hn'.1 ?_) ?_
    · rw [← e]
      exact List.mem_map.2 ⟨x, List.mem_append_right _ hx, rfl⟩
    · refine (List.Perm.nodup_iff ?_).2 hn
      exact (((insC_perm c acc).append_left cs).trans List.perm_middle).map _
theorem srtC_asc {cs : List Cls} (h : (cs.map (·.1)).Nodup) : AscC (srtC cs) := fold_asc cs [] List.Pairwise.nil (by rw [List.append_nil]; exact h)
theorem asc_one : ∀ {a b : List Cls}, AscC a → AscC b → a.Perm b → a = b
  | [], b, _, _, h => (List.nil_perm.1 h).symm
  | x :: a, [], _, _, h => absurd h.length_eq (by simp)
  | x :: a, y :: b, ha, hb, h => by
    obtain ⟨a1, a2⟩ := List.pairwise_cons.1 ha
    obtain ⟨b1, b2⟩ := List.pairwise_cons.1 hb
    have hx : x ∈ y :: b := h.mem_iff.1 List.mem_cons_self
    have hy : y ∈ x :: a := h.mem_iff.2 List.mem_cons_self
    have e : x = y := by
      rcases List.mem_cons.1 hx with e | hx
      · exact e
      · rcases List.mem_cons.1 hy with e | hy
        · exact e.symm
        · have c1 := b1 x hx
          have c2 := a1 y hy
          rw [ltB_asym c1] at c2; cases c2
    subst e
    rw [asc_one a2 b2 (List.Perm.cons_inv h)]
/-- what is sorted is what insertion makes -/
theorem srtC_eq {cs cs' : List Cls} (hn : (cs.map (·.1)).Nodup) (hp : cs'.Perm cs) (hs : cs'.Pairwise fun a b => ltB b.1 a.1 = false) : cs' = srtC cs := by
  refine asc_one ?_ (srtC_asc hn) (hp.trans (srtC_perm cs).symm)
  have hn' : (cs'.map (·.1)).Nodup := (List.Perm.nodup_iff (hp.map _)).2 hn
  have key : ∀ l : List Cls, (l.map (·.1)).Nodup → (l.Pairwise fun a b => ltB b.1 a.1 = false) → AscC l := fun l => by
    induction l with
    | nil => exact fun _ _ => List.Pairwise.nil
    | cons x l ih =>
      intro h1 h2
      rw [List.map_cons, List.nodup_cons] at h1
      obtain ⟨p1, p2⟩ := List.pairwise_cons.1 h2
      refine List.pairwise_cons.2 ⟨fun y hy => ?_, ih h1.2 p2⟩
      cases a : ltB x.1 y.1 with
      | true => rfl
      | false => exact absurd (List.mem_map.2 ⟨y, hy, ltB_total _ _ (p1 y hy) a⟩) h1.1
  exact key cs' hn' hs

end Go.Proofs.Ytajmoclnmphmgaa

namespace Go.Proofs.Ytajmoclnmphmgaa
set_option linter.all false
set_option maxRecDepth 100000
open Go.RowKit

/-- the x-th permutation, and its table -/
def pmA (n x : Nat) : List Int := (permsL n).getD x []
def tbA (n : Nat) (ys : List Int) (x : Nat) : List Int := tabL (pmA n x) ys
structure YOk (n : Nat) (ys : List Int) : Prop where
  one : 1 ≤ n
  four : n ≤ 4
  len : ys.length = n
  nine : ∀ x ∈ ys, -9 ≤ x ∧ x ≤ 9
  dst : DstY n ys
theorem yOk {n : Nat} {ys : List Int} (h : apOk (n : Int) ys = true) : YOk n ys := by
  simp only [apOk, nmOk, Bool.and_eq_true, decide_eq_true_eq] at h
  obtain ⟨⟨⟨⟨⟨a, b⟩, c⟩, d⟩, e⟩, f⟩ := h
  have hl : ys.length = n := by omega
  refine ⟨by omega, by omega, hl, d, fun i j hi hj hne he => ?_⟩
  rw [getD_lt (by omega), getD_lt (by omega)] at he
  have hp := List.pairwise_iff_getElem.1 f
  rcases Nat.lt_or_gt_of_ne hne with h | h
  · exact hp i j (by omega) (by omega) h he
  · exact hp j i (by omega) (by omega) h he.symm
theorem YOk.ap {n : Nat} {ys : List Int} (h : YOk n ys) : apOk (n : Int) ys = true := by
  have h1 := h.one
  have h2 := h.four
  have h3 := h.len
  simp only [apOk, nmOk, Bool.and_eq_true, decide_eq_true_eq]
  refine ⟨⟨⟨⟨⟨by omega, by omega⟩, by omega⟩, h.nine⟩, by omega⟩, ?_⟩
  rw [List.nodup_iff_pairwise_ne, List.pairwise_iff_getElem]
  intro i j hi hj hij he
  refine h.dst i j (by omega) (by omega) (by omega) ?_
  rw [getD_lt (by omega), getD_lt (by omega)]
  exact he
section
variable {n : Nat} {ys : List Int}
theorem pm_p5 (hy : YOk n ys) {x : Nat} (hx : x < fact n) : P5 n (pmA n x) := prm_p5 hy.one (by have := hy.four; omega) hx
theorem tb_length (hy : YOk n ys) {x : Nat} (hx : x < fact n) : (tbA n ys x).length = fact n := by unfold tbA; rw [tabL_length, (pm_p5 hy hx).len]
theorem wrap_of {a : Int} (h : a.natAbs ≤ 1000000000000000000) : wrap64 a = a := by unfold wrap64; omega
theorem tb_at (hy : YOk n ys) {x i : Nat} (hx : x < fact n) (hi : i < fact n) : (tbA n ys x).getD i 0 = FW n ys (pmA n x) (pmA n i) := by
  have hp := pm_p5 hy hx
  unfold tbA
  rw [tab_getD hp.len hi]
  have hb := FW_bound hy.len hy.one hy.four hy.nine hp (pm_p5 hy hi)
  unfold tabV
  have e : Ev (dblP (pmA n x) ys) (mono (pickL ((permsL n).getD i []) ys)) = FW n ys (pmA n x) (pmA n i) := by
    unfold FW EV dblP
    rw [hp.len]; rfl
  rw [e]
  exact wrap_of (by omega)
theorem tb_bound (hy : YOk n ys) {x i : Nat} (hx : x < fact n) (hi : i < fact n) : ((tbA n ys x).getD i 0).natAbs ≤ 1000000 := by
  rw [tb_at hy hx hi]
  exact FW_bound hy.len hy.one hy.four hy.nine (pm_p5 hy hx) (pm_p5 hy hi)
theorem tb_ne (hy : YOk n ys) {x : Nat} (hx : x < fact n) : (tbA n ys x).getD x 0 ≠ 0 := by
  rw [tb_at hy hx hx]
  exact FW_ne hy.len (pm_p5 hy hx) hy.dst
end

/-- so many times a table taken off -/
def subL (rest : List Int) (c : Int) (t : List Int) : List Int := (List.range rest.length).map fun i => rest.getD i 0 - c * t.getD i 0
theorem subL_length (rest : List Int) (c : Int) (t : List Int) : (subL rest c t).length = rest.length := by simp [subL]
theorem subL_getD {rest t : List Int} {c : Int} {i : Nat} (h : i < rest.length) : (subL rest c t).getD i 0 = rest.getD i 0 - c * t.getD i 0 := by simp [subL, List.getD_eq_getElem?_getD, h]
/-- how often a permutation goes in -/
def qoA (n : Nat) (ys rest : List Int) (x : Nat) : Int := (rest.getD x 0).tdiv ((tbA n ys x).getD x 0)
def badA (n : Nat) (ys rest : List Int) (x : Nat) : Prop := qoA n ys rest x * (tbA n ys x).getD x 0 ≠ rest.getD x 0 ∨ qoA n ys rest x < -1000000000 ∨ 1000000000 < qoA n ys rest x
instance (n : Nat) (ys rest : List Int) (x : Nat) : Decidable (badA n ys rest x) := by unfold badA; exact inferInstance
def exGo (n : Nat) (ys : List Int) : List Nat → List Int → List Cls → Option (List Cls)
  | [], _, out => some out
  | x :: l, rest, out =>
    if badA n ys rest x then none
    else if qoA n ys rest x = 0 then exGo n ys l rest out
    else exGo n ys l (subL rest (qoA n ys rest x) (tbA n ys x)) (out ++ [(trimL (pmA n x), qoA n ys rest x)])
/-- what ExpandLocal says of values that pass -/
def resE (o : Option (List Cls)) : List Cls × Bool := match o with | none => ([], false) | some out => (srtC out, true)
def expE (n : Nat) (vs ys : List Int) (ord : List Nat) : List Cls × Bool := resE (exGo n ys ord vs [])

/-- what is left is not great -/
def RestOk (n k : Nat) (rest : List Int) : Prop := rest.length = fact n ∧ ∀ i, i < fact n → (rest.getD i 0).natAbs ≤ 1000000000000 + k * 1000000000000000
theorem RestOk.mono {n k : Nat} {rest : List Int} (h : RestOk n k rest) : RestOk n (k + 1) rest := ⟨h.1, fun i hi => Nat.le_trans (h.2 i hi) (Nat.add_le_add_left (Nat.mul_le_mul_right _ (Nat.le_succ k)) _)⟩
theorem abs_mul2 {a b : Int} {A B : Nat} (h1 : a.natAbs ≤ A) (h2 : b.natAbs ≤ B) : (a * b).natAbs ≤ A * B := by rw [Int.natAbs_mul]; exact Nat.mul_le_mul h1 h2
theorem RestOk.sub {n k : Nat} {rest ys : List Int} (hy : YOk n ys) {x : Nat} (hx : x < fact n) {c : Int} (hc : c.natAbs ≤ 1000000000) (h : RestOk n k rest) : RestOk n (k + 1) (subL rest c (tbA n ys x)) := by
  refine ⟨by rw [subL_length]; exact h.1, fun i hi => ?_⟩
  rw [subL_getD (by rw [h.1]; exact hi)]
  have a := h.2 i hi
  have b := abs_mul2 hc (tb_bound hy hx hi)
  have e : (k + 1) * 1000000000000000 = k * 1000000000000000 + 1000000000 * 1000000 := Nat.succ_mul _ _
  rw [e]
  obtain ⟨X, hX⟩ : ∃ X, X = k * 1000000000000000 := ⟨_, rfl⟩
  rw [← hX] at a ⊢
  obtain ⟨Y, hY⟩ : ∃ Y, Y = 1000000000 * 1000000 := ⟨_, rfl⟩
  rw [← hY] at b ⊢
  clear hX hY e
  omega
theorem qo_good {n : Nat} {ys rest : List Int} {x : Nat} (h : ¬ badA n ys rest x) : qoA n ys rest x * (tbA n ys x).getD x 0 = rest.getD x 0 ∧ (qoA n ys rest x).natAbs ≤ 1000000000 := by
  unfold badA at h
  refine ⟨?_, by omega⟩
  by_cases e : qoA n ys rest x * (tbA n ys x).getD x 0 = rest.getD x 0
  · exact e
  · exact absurd (.inl e) h
theorem tdiv_abs (a b : Int) : (a.tdiv b).natAbs ≤ a.natAbs := by rw [Int.natAbs_tdiv]; exact Nat.div_le_self _ _
theorem tdiv_mul_abs (a b : Int) : (a.tdiv b * b).natAbs ≤ a.natAbs := by rw [Int.natAbs_mul, Int.natAbs_tdiv]; exact Nat.div_mul_le_self _ _
/-- .. and how it is asked by the remainder -/
theorem qo_mod {a b : Int} : a.tdiv b * b = a ↔ a.tmod b = 0 := by
  have := Int.mul_tdiv_add_tmod a b
  rw [Int.mul_comm] at this
  omega

/-- how the classes stand in what was done -/
def trimB (n : Nat) : Bool := decide (((List.range (fact n)).map fun x => trimL (pmA n x)).Nodup)
set_option maxRecDepth 100000 in
theorem trim_all : ∀ n : Fin 4, trimB (n.val + 1) = true := by decide +kernel
theorem trim_nodup {n : Nat} (h1 : 1 ≤ n) (h4 : n ≤ 4) : ((List.range (fact n)).map fun x => trimL (pmA n x)).Nodup := by
  have := trim_all ⟨n - 1, by omega⟩
  rw [show (⟨n - 1, by omega⟩ : Fin 4).val + 1 = n by simp; omega] at this
  exact of_decide_eq_true this
/-- classes out of some of the permutations that were done -/
def OutOk (n : Nat) (done : List Nat) (out : List Cls) : Prop := (out.map (·.1)).Sublist (done.map fun x => trimL (pmA n x))
theorem OutOk.skip {n : Nat} {done : List Nat} {out : List Cls} (h : OutOk n done out) (x : Nat) : OutOk n (done ++ [x]) out := by
  unfold OutOk at *
  rw [List.map_append]
  exact h.trans (List.sublist_append_left _ _)
theorem OutOk.snoc {n : Nat} {done : List Nat} {out : List Cls} (h : OutOk n done out) (x : Nat) (c : Int) : OutOk n (done ++ [x]) (out ++ [(trimL (pmA n x), c)]) := by
  unfold OutOk at *
  rw [List.map_append, List.map_append]
  exact h.append (List.Sublist.refl _)
theorem OutOk.nodup {n : Nat} (h1 : 1 ≤ n) (h4 : n ≤ 4) {done l : List Nat} {out : List Cls} (h : OutOk n done out) (hp : (done ++ l).Perm (List.range (fact n))) : (out.map (·.1)).Nodup := by
  refine List.Nodup.sublist h ?_
  have a : ((done ++ l).map fun x => trimL (pmA n x)).Nodup := (List.Perm.nodup_iff (hp.map _)).2 (trim_nodup h1 h4)
  rw [List.map_append] at a
  exact (List.nodup_append.1 a).1
theorem OutOk.length {n : Nat} {done l : List Nat} {out : List Cls} (h : OutOk n done out) (hp : (done ++ l).Perm (List.range (fact n))) : out.length ≤ fact n := by
  have a := h.length_le
  have b := hp.length_eq
  rw [List.length_map, List.length_map] at a
  rw [List.length_append, List.length_range] at b
  omega
theorem srtC_snoc (cs : List Cls) (c : Cls) : srtC (cs ++ [c]) = insC c (srtC cs) := by unfold srtC; rw [List.foldl_append]; rfl

end Go.Proofs.Ytajmoclnmphmgaa

namespace Go.Proofs.Ytajmoclnmphmgaa
set_option linter.all false
open Go.RowKit Go.Sort

variable {α : Type} [Inhabited α]
def swR (a b : Nat) : Nat → Array α → Array α
  | 0, d => d
  | k + 1, d => swp (swR a b k d) (a + k) (b + k)
theorem size_swR (a b : Nat) (d : Array α) : ∀ k, (swR a b k d).size = d.size
  | 0 => rfl
  | k + 1 => by rw [swR, size_swp, size_swR a b d k]
def rotA (m : Nat) : Nat → Nat → Nat → Array α → Array α
  | 0, _, _, d => d
  | f + 1, i, j, d => if i = j then swR (m - i) m i d else if j < i then rotA m f (i - j) j (swR (m - i) m j d) else rotA m f i (j - i) (swR (m - i) (m + j - i) i d)
theorem size_rotA (m : Nat) : ∀ (f i j : Nat) (d : Array α), (rotA m f i j d).size = d.size
  | 0, _, _, _ => rfl
  | f + 1, i, j, d => by
    rw [rotA]
    split
    · exact size_swR _ _ _ _
    · split
      · rw [size_rotA m f, size_swR]
      · rw [size_rotA m f, size_swR]
/-- the place that a search by halves finds -/
def bsA (p : Nat → Bool) : Nat → Nat → Nat → Nat
  | 0, i, _ => i
  | f + 1, i, j => if i < j then (if p ((i + j) / 2) then bsA p f ((i + j) / 2 + 1) j else bsA p f i ((i + j) / 2)) else i
theorem bsA_rng (p : Nat → Bool) : ∀ (f i j : Nat), i ≤ j → i ≤ bsA p f i j ∧ bsA p f i j ≤ j
  | 0, i, j, h => ⟨Nat.le_refl _, h⟩
  | f + 1, i, j, h => by
    rw [bsA]
    split
    · split
      · have := bsA_rng p f ((i + j) / 2 + 1) j (by omega); omega
      · have := bsA_rng p f i ((i + j) / 2) (by omega); omega
    · omega
theorem bsA_end (p : Nat → Bool) : ∀ (f i j : Nat), ¬ i < j → bsA p f i j = i
  | 0, _, _, _ => rfl
  | f + 1, i, j, h => by rw [bsA, if_neg h]
theorem bsA_up {p : Nat → Bool} {f i j : Nat} (hf : j - i ≤ f) (h : i < j) (hp : p ((i + j) / 2) = true) : bsA p f i j = bsA p (f - 1) ((i + j) / 2 + 1) j := by
  obtain ⟨t, rfl⟩ : ∃ t, f = t + 1 := ⟨f - 1, by omega⟩
  rw [bsA, if_pos h, if_pos hp]; rfl
theorem bsA_dn {p : Nat → Bool} {f i j : Nat} (hf : j - i ≤ f) (h : i < j) (hp : p ((i + j) / 2) = false) : bsA p f i j = bsA p (f - 1) i ((i + j) / 2) := by
  obtain ⟨t, rfl⟩ : ∃ t, f = t + 1 := ⟨f - 1, by omega⟩
  rw [bsA, if_pos h, hp]; rfl
def shUA (a : Nat) : Nat → Array α → Array α
  | 0, d => d
  | k + 1, d => swp (shUA a k d) (a + k) (a + k + 1)
def shDA (m : Nat) : Nat → Array α → Array α
  | 0, d => d
  | k + 1, d => swp (shDA m k d) (m - k) (m - k - 1)
theorem size_shUA (a : Nat) (d : Array α) : ∀ k, (shUA a k d).size = d.size
  | 0 => rfl
  | k + 1 => by rw [shUA, size_swp, size_shUA a d k]
theorem size_shDA (m : Nat) (d : Array α) : ∀ k, (shDA m k d).size = d.size
  | 0 => rfl
  | k + 1 => by rw [shDA, size_swp, size_shDA m d k]
section
variable (lt : α → α → Bool)
def sp1 (d : Array α) (a h : Nat) : Bool := lt d[h]! d[a]!
def sp2 (d : Array α) (m h : Nat) : Bool := !lt d[m]! d[h]!
def sp3 (d : Array α) (p c : Nat) : Bool := !lt d[p - c]! d[c]!
/-- where the search of the middle case begins and ends -/
def smLo (a m b : Nat) : Nat := if (a + b) / 2 < m then (a + b) / 2 + m - b else a
def smHi (a m b : Nat) : Nat := if (a + b) / 2 < m then (a + b) / 2 else m
def smAt (d : Array α) (a m b : Nat) : Nat := bsA (sp3 lt d ((a + b) / 2 + m - 1)) (smHi a m b - smLo a m b) (smLo a m b) (smHi a m b)
def symA : Nat → Nat → Nat → Nat → Array α → Array α
  | 0, _, _, _, d => d
  | f + 1, a, m, b, d =>
    if m - a = 1 then shUA a (bsA (sp1 lt d a) (b - m) m b - 1 - a) d
    else if b - m = 1 then shDA m (m - bsA (sp2 lt d m) (m - a) a m) d
    else
      let mid := (a + b) / 2
      let st := smAt lt d a m b
      let en := mid + m - st
      let d1 := if st < m ∧ m < en then rotA m (en - st) (m - st) (en - m) d else d
      let d2 := if a < st ∧ st < mid then symA f a st mid d1 else d1
      if mid < en ∧ en < b then symA f mid en b d2 else d2
theorem size_symA : ∀ (f a m b : Nat) (d : Array α), (symA lt f a m b d).size = d.size
  | 0, _, _, _, _ => rfl
  | f + 1, a, m, b, d => by
    rw [symA]
    split
    · exact size_shUA _ _ _
    · split
      · exact size_shDA _ _ _
      · dsimp only
        repeat' split
        all_goals simp only [size_symA f, size_rotA]
/-- the insertion sort, by another recursion -/
def insS (a b : Nat) : Nat → Nat → Array α → Array α
  | 0, _, d => d
  | f + 1, i, d => if i < b then insS a b f (i + 1) (insInner lt a i d) else d
theorem insS_eq (a b : Nat) : ∀ (f i : Nat) (d : Array α), b - i ≤ f → insOuter lt a b i d = insS lt a b f i d
  | 0, i, d, h => by rw [insOuter, if_neg (by omega), insS]
  | f + 1, i, d, h => by
    rw [insOuter, insS]
    split
    · exact insS_eq a b f (i + 1) _ (by omega)
    · rfl
end
/-- the sort of fewer than twenty, and of 24 -/
def stbA (lt : α → α → Bool) (d : Array α) : Array α :=
  if d.size < 20 then insertionSort lt d 0 d.size else symA lt d.size 0 20 d.size (insertionSort lt (insertionSort lt d 0 20) 20 d.size)
def stbS (lt : α → α → Bool) (d : Array α) : Array α :=
  if d.size < 20 then insS lt 0 d.size d.size 1 d else symA lt d.size 0 20 d.size (insS lt 20 d.size d.size 21 (insS lt 0 20 20 1 d))

end Go.Proofs.Ytajmoclnmphmgaa

namespace Go.Proofs.Ytajmoclnmphmgaa
set_option linter.all false
open Go.RowKit Go.Shelf Go.Sort Go.Lib

/-- a world, so many draws taken -/
def atd (w : World) (n : Nat) : World := { w with drawn := n }
theorem wp_region_quiet_z {P : Program} {id : Nat} {Q : Exit → Act → World → Prop} {a : Act} {w : World} {l : List Oper} (hm : P.follows .mixedOrders = true) (hB : Region.lexB .any l.toArray = true)
    (h : wpQuiet P l.toArray (fun w' => ∃ p : GrownBy, w' = grow (atd w p.n) p.os) (fun a' => ∀ w', (∃ p : GrownBy, w' = grow (atd w p.n) p.os) → Q .normal a' w') l a) : (Code.region id l.toArray true).wp P Q a w :=
  wp_region_quiet (C := fun w' => ∃ p : GrownBy, w' = grow (atd w p.n) p.os) hm hB ⟨⟨w.drawn + 1, #[]⟩, by rw [grow_empty]; rfl⟩ (by simpa using h)
theorem grow_atd (w : World) (n q : Nat) (os os' : Array Obj) : grow (atd (grow (atd w n) os) q) os' = grow (atd w q) (os ++ os') := by
  show grow (grow (atd w q) os) os' = _
  rw [grow_grow]
theorem grown_z {P : Program} {f : FuncId} {args : Array Value} {w : World} {n : Nat} {os : Array Obj} {v : Value}
    (h : Calls P f args (grow (atd w n) os) fun e w' => e = .returned v ∧ ∃ q os', w' = grow (atd (grow (atd w n) os) q) os') : Calls P f args (grow (atd w n) os) fun e w'' => e = .returned v ∧ ∃ p : GrownBy, w'' = grow (atd w p.n) p.os :=
  h.mono fun _ _ ⟨he, q, os', hq⟩ => ⟨he, ⟨q, os ++ os'⟩, by rw [hq, grow_atd]⟩
theorem below_grow {W w' : World} (h : Below W.heap.size W w') : ∃ q os', w' = grow (atd W q) os' := by
  refine ⟨w'.drawn, w'.heap.extract W.heap.size w'.heap.size, ?_⟩
  have hh : w'.heap = W.heap ++ w'.heap.extract W.heap.size w'.heap.size := by
    apply Array.ext_getElem?
    intro i
    by_cases hi : i < W.heap.size
    · rw [Array.getElem?_append_left hi]; exact h.block i hi
    · rw [Array.getElem?_append_right (by omega), Array.getElem?_extract]
      by_cases h2 : i < w'.heap.size
      · rw [if_pos (by omega)]; congr 1; omega
      · rw [if_neg (by omega), Array.getElem?_eq_none (by omega)]
  have h1 := h.os
  have h2 := h.tape
  have h3 := h.output
  obtain ⟨a1, a2, a3, a4, a5⟩ := w'
  obtain ⟨b1, b2, b3, b4, b5⟩ := W
  dsimp only at h1 h2 h3 hh ⊢
  unfold grow atd
  dsimp only
  rw [← hh, h1, h2, h3]

variable {P : Program} {α : Type} [Inhabited α] {enc : α → Value} {w0 W : World} {blk off : Nat} {dk d0 : Array α}
def SZ (enc : α → Value) (w0 : World) (blk off : Nat) (dk : Array α) (W : World) : Prop := ∃ n, SW enc w0 blk off dk (atd W n)
theorem SZ.start (h : Holds enc w0 blk off dk) : SZ enc w0 blk off dk w0 := ⟨w0.drawn, SW.start h⟩
theorem SZ.c1 (h : SZ enc w0 blk off dk W) (R : Row1 enc w0 blk off d0) (hs : dk.size = d0.size) (i : Nat) (hi : i < dk.size) : W.cell? ⟨blk, off + i, none⟩ = some (enc dk[i]!) := by
  obtain ⟨n, h⟩ := h
  exact h.c1 R hs i hi
theorem SZ.f1 (h : SZ enc w0 blk off dk W) (R : Row1 enc w0 blk off d0) (hs : dk.size = d0.size) (i : Nat) (hi : i < dk.size) : W.frozen? ⟨blk, off + i, none⟩ = false := by
  obtain ⟨n, h⟩ := h
  exact h.f1 R hs i hi
theorem SZ.grown (h : SZ enc w0 blk off dk W) (n : Nat) (os : Array Obj) : SZ enc w0 blk off dk (grow (atd W n) os) := by
  obtain ⟨m, h⟩ := h
  exact ⟨m, h.grown 0 os⟩
theorem SZ.cl (h : SZ enc w0 blk off dk W) (R : Row1 enc w0 blk off d0) (hs : dk.size = d0.size) (i : Nat) (hi : i < dk.size) (n : Nat) (os : Array Obj) : (grow (atd W n) os).cell? ⟨blk, off + i, none⟩ = some (enc dk[i]!) := (h.grown n os).c1 R hs i hi
theorem SZ.drew (h : SZ enc w0 blk off dk W) : SZ enc w0 blk off dk W.drew := by
  obtain ⟨m, h⟩ := h
  exact ⟨m, h⟩
theorem SZ.c2 (h : SZ enc w0 blk off dk W) (R : Row1 enc w0 blk off d0) (hs : dk.size = d0.size) (i j : Nat) (hi : i < dk.size) (hj : j < dk.size) (v : Value) :
    ∃ u, (W.setCell ⟨blk, off + i, none⟩ v).cell? ⟨blk, off + j, none⟩ = some u := by
  obtain ⟨m, h⟩ := h
  exact h.c2 R hs i j hi hj v
theorem SZ.swapped (h : SZ enc w0 blk off dk W) (R : Row1 enc w0 blk off d0) (i j : Nat) (hi : i < dk.size) (hj : j < dk.size) :
    SZ enc w0 blk off (swp dk i j) ((W.setCell ⟨blk, off + i, none⟩ (enc dk[j]!)).setCell ⟨blk, off + j, none⟩ (enc dk[i]!)).drew := by
  obtain ⟨m, h⟩ := h
  exact ⟨m, h.swap R.hblk i j hi hj⟩
/-- what is asked of the closure -/
def CmpZ (P : Program) (g : Nat) (cb : Array Value) (enc : α → Value) (cf : α → α → Int) (blk off size : Nat) (w0 : World) : Prop :=
  ∀ (W : World) (dk : Array α), SZ enc w0 blk off dk W → dk.size = size → ∀ x y : α,
    Calls P g (#[enc x, enc y] ++ cb) W fun e w' => e = .returned (.int .i64 (cf x y)) ∧ Below W.heap.size W w'
theorem SZ.cmp {g : Nat} {cb : Array Value} {cf : α → α → Int} {size : Nat} (h : SZ enc w0 blk off dk W) (hC : CmpZ P g cb enc cf blk off size w0) (hs : dk.size = size) (x y : α) (n : Nat) (os : Array Obj) :
    Calls P g (#[enc x, enc y] ++ cb) (grow (atd W n) os) fun e w' => e = .returned (.int .i64 (cf x y)) ∧ ∃ q os', w' = grow (atd (grow (atd W n) os) q) os' :=
  (hC _ dk (h.grown n os) hs x y).mono fun _ _ ⟨he, hb⟩ => ⟨he, below_grow hb⟩

end Go.Proofs.Ytajmoclnmphmgaa

namespace Go.Proofs.Ytajmoclnmphmgaa
set_option linter.all false
open Go.RowKit Go.Shelf Go.Sort Go.Lib

variable {α : Type} [Inhabited α]
theorem swInj {a b : Int} (h : a = b) : Value.int .i64 a = .int .i64 b := by rw [h]

set_option maxHeartbeats 4000000 in
set_option maxRecDepth 1000000 in
theorem swapRange_any (enc : α → Value) (fv : Value) (blk off cap a b n : Nat) (d0 d : Array α) (w0 w : World) (R : Row1 enc w0 blk off d0) (hs : d0.size = d.size) (S : SZ enc w0 blk off d w) (ha : a + n ≤ d.size) (hb : b + n ≤ d.size) (hsz : d.size < 4611686018427387904) :
    Calls Try.prog 111 #[.slice (some ⟨blk, off, none⟩) d.size cap, .int .i64 (a : Int), .int .i64 (b : Int), .int .i64 (n : Int), fv] w fun e w' => e = .returned (.tuple #[]) ∧ SZ enc w0 blk off (swR a b n d) w' := by
  have hcl0 := R.hO.cells
  simp only [Value.cells] at hcl0
  have hst := R.hO.store Try.prog
  have mixed := Try.insI.mixed
  have S0 : Aside (SZ enc w0 blk off d w) := S
  clear S
  go_enter Try.func111, Try.ntmps111
  go_wp2
  go_loopg [10] n (fun g1 vi wr => ∃ (i : Nat) (dk : Array α), vi = .int .i64 i ∧ i ≤ n ∧ n - i ≤ g1 ∧ dk.size = d.size ∧ Aside (SZ enc w0 blk off dk wr) ∧ Hid (dk = swR a b i d))
  case atStart => exact ⟨0, d, by go_num, by omega, by omega, rfl, S0, rfl⟩
  case round =>
    clear S0
    obtain ⟨i, dk, rfl, hin, hg1, hsk, S1, HD⟩ := hrel
    by_cases hlt : i < n
    · have hltz : (i : Int) < (n : Int) := by omega
      obtain ⟨iN1, hiN1⟩ : ∃ zz, zz = a + i := ⟨_, rfl⟩
      obtain ⟨jN1, hjN1⟩ : ∃ zz, zz = b + i := ⟨_, rfl⟩
      have eaN1 : ((a : Int) + (i : Int)).toNat = iN1 := by omega
      have paN1 : (0 : Int) ≤ (a : Int) + (i : Int) := by omega
      have baN1 : (a : Int) + (i : Int) < (d.size : Int) := by omega
      have raN1 : IntKind.i64.wrap ((a : Int) + (i : Int)) = (a : Int) + (i : Int) := by rw [IntKind.wrap_i64]; omega
      have ecN1 : ((b : Int) + (i : Int)).toNat = jN1 := by omega
      have pcN1 : (0 : Int) ≤ (b : Int) + (i : Int) := by omega
      have bcN1 : (b : Int) + (i : Int) < (d.size : Int) := by omega
      have rcN1 : IntKind.i64.wrap ((b : Int) + (i : Int)) = (b : Int) + (i : Int) := by rw [IntKind.wrap_i64]; omega
      obtain ⟨xN1, hxN1⟩ : ∃ x, x = dk[a + i]! := ⟨_, rfl⟩
      obtain ⟨yN1, hyN1⟩ : ∃ x, x = dk[b + i]! := ⟨_, rfl⟩
      have S2 : Aside (SZ enc w0 blk off (swp dk (a + i) (b + i)) ((wr.setCell ⟨blk, off + iN1, none⟩ (enc yN1)).setCell ⟨blk, off + jN1, none⟩ (enc xN1)).drew) := by rw [hiN1, hjN1, hxN1, hyN1]; exact S1.out.swapped R (a + i) (b + i) (by omega) (by omega)
      have cN1a := S1.out.c1 R (by omega) (a + i) (by omega)
      have cN1b := S1.out.c1 R (by omega) (b + i) (by omega)
      have fN1a := S1.out.f1 R (by omega) (a + i) (by omega)
      have fN1b := S1.out.f1 R (by omega) (b + i) (by omega)
      obtain ⟨uN1, cN1c⟩ := S1.out.c2 R (by omega) (a + i) (b + i) (by omega) (by omega) (enc yN1)
      rw [← hjN1, ← hiN1] at cN1c
      rw [← hxN1, ← hiN1] at cN1a
      rw [← hyN1, ← hjN1] at cN1b
      rw [← hiN1] at fN1a
      rw [← hjN1] at fN1b
      clear S1 hxN1 hyN1 hiN1 hjN1
      go_wp2_with fail
      go_big_region_o
      clear cN1a cN1b cN1c fN1a fN1b
      generalize ((wr.setCell ⟨blk, off + iN1, none⟩ (enc yN1)).setCell ⟨blk, off + jN1, none⟩ (enc xN1)).drew = w2 at S2 ⊢
      clear eaN1 ecN1 paN1 baN1 raN1 pcN1 bcN1 rcN1
      go_wp2
      go_roundg (n - (i + 1))
      case measure => omega
      case rel => exact ⟨i + 1, swp dk (a + i) (b + i), by first | rfl | go_num | (congr 1; omega), by omega, Nat.le_refl _, by rw [size_swp]; exact hsk, S2, (show Hid _ from by rw [HD.out]; exact rfl)⟩
    · have hltz : ¬ (i : Int) < (n : Int) := by omega
      go_wp2
      go_end0
      have hin2 : i = n := by omega
      refine ⟨rfl, ?_⟩
      have := S1.out
      rw [HD.out, hin2] at this
      exact this

set_option maxHeartbeats 4000000 in
set_option maxRecDepth 1000000 in
theorem rotate_any (enc : α → Value) (fv : Value) (blk off cap a m b : Nat) (d0 d : Array α) (w0 w : World) (R : Row1 enc w0 blk off d0) (hs : d0.size = d.size) (S : SZ enc w0 blk off d w) (ham : a < m) (hmb : m < b) (hb : b ≤ d.size) (hsz : d.size < 4611686018427387904) :
    Calls Try.prog 99 #[.slice (some ⟨blk, off, none⟩) d.size cap, .int .i64 (a : Int), .int .i64 (m : Int), .int .i64 (b : Int), fv] w fun e w' => e = .returned (.tuple #[]) ∧ SZ enc w0 blk off (rotA m (b - a) (m - a) (b - m) d) w' := by
  obtain ⟨K, hK⟩ : ∃ K, K = rotA m (b - a) (m - a) (b - m) d := ⟨_, rfl⟩
  rw [← hK]
  have HK := Lib.hid hK
  clear hK
  have S0 : Aside (SZ enc w0 blk off d w) := S
  clear S
  have hw1 : IntKind.i64.wrap ((m : Int) - (a : Int)) = ((m - a : Nat) : Int) := by rw [IntKind.wrap_i64]; omega
  have hw2 : IntKind.i64.wrap ((b : Int) - (m : Int)) = ((b - m : Nat) : Int) := by rw [IntKind.wrap_i64]; omega
  have hz1 : (m : Int) - (a : Int) = ((m - a : Nat) : Int) := by omega
  have hz2 : (b : Int) - (m : Int) = ((b - m : Nat) : Int) := by omega
  have Hz1 := Lib.hid hz1
  have Hz2 := Lib.hid hz2
  clear hz1 hz2 hw1 hw2
  go_enter Try.func99, Try.ntmps99
  go_wp2
  go_loopg [10, 11] (b - a) (fun g1 vi vj wr => ∃ (i j : Nat) (dk : Array α), vi = .int .i64 i ∧ vj = .int .i64 j ∧ 1 ≤ i ∧ 1 ≤ j ∧ i ≤ m - a ∧ j ≤ b - m ∧ i + j ≤ g1 ∧ dk.size = d.size ∧ Aside (SZ enc w0 blk off dk wr) ∧ Hid (rotA m g1 i j dk = K))
  case atStart => exact ⟨m - a, b - m, d, by first | exact swInj Hz1.out | go_num, by first | exact swInj Hz2.out | go_num, by omega, by omega, Nat.le_refl _, Nat.le_refl _, by omega, rfl, S0, HK.out.symm⟩
  case round =>
    clear S0
    obtain ⟨i, j, dk, rfl, rfl, hi1, hj1, him, hjb, hg1, hsk, S1, HD⟩ := hrel
    have hmi : (m : Int) - (i : Int) = ((m - i : Nat) : Int) := by omega
    have Hmi := Lib.hid hmi
    clear hmi
    have Hsk := Lib.hid hsk
    obtain ⟨gg, hgg⟩ : ∃ gg, gk = gg + 1 := ⟨gk - 1, by omega⟩
    by_cases hij : i = j
    · have e0 : ((i : Int) != (j : Int)) = false := by simp [hij]
      have Hij := Lib.hid hij
      clear hij hsk
      go_wp2_with fail
      rw [Hmi.out, ← Hsk.out]
      refine (swapRange_any enc fv blk off cap (m - i) m i d0 dk w0 _ R (by rw [Hsk.out]; exact hs) S1.out (by have := Hsk.out; omega) (by have := Hsk.out; have := Hij.out; omega) (by rw [Hsk.out]; exact hsz)).mono ?_
      rintro e w2 ⟨rfl, hS2⟩
      go_wp2_with fail
      go_end0
      refine ⟨rfl, ?_⟩
      have := HD.out
      rw [hgg, rotA, if_pos Hij.out] at this
      rw [← this]
      exact hS2
    · have e0 : ((i : Int) != (j : Int)) = true := by simp; omega
      by_cases hji : j < i
      · have hjiz : (j : Int) < (i : Int) := by omega
        have Hij := Lib.hid hij
        clear hij hsk
        go_wp2_with fail
        rw [Hmi.out, ← Hsk.out]
        refine (swapRange_any enc fv blk off cap (m - i) m j d0 dk w0 _ R (by rw [Hsk.out]; exact hs) S1.out (by have := Hsk.out; omega) (by have := Hsk.out; omega) (by rw [Hsk.out]; exact hsz)).mono ?_
        rintro e w2 ⟨rfl, hS2⟩
        have S3 : Aside (SZ enc w0 blk off (swR (m - i) m j dk) w2) := hS2
        clear hS2 S1
        rw [Hsk.out]
        go_wp2_with fail
        go_roundg gg
        case measure => omega
        case rel => exact ⟨i - j, j, _, by first | go_num | exact swInj (by omega), rfl, by omega, hj1, by omega, hjb, by omega, by rw [size_swR]; exact Hsk.out, S3, (show Hid _ from by
          have := HD.out
          rw [hgg, rotA, if_neg Hij.out, if_pos hji] at this
          exact this)⟩
      · have hjiz : ¬ (j : Int) < (i : Int) := by omega
        have hmj : (m : Int) + (j : Int) - (i : Int) = ((m + j - i : Nat) : Int) := by omega
        have Hmj := Lib.hid hmj
        have Hij := Lib.hid hij
        clear hij hsk hmj
        go_wp2_with fail
        rw [Hmi.out, Hmj.out, ← Hsk.out]
        refine (swapRange_any enc fv blk off cap (m - i) (m + j - i) i d0 dk w0 _ R (by rw [Hsk.out]; exact hs) S1.out (by have := Hsk.out; omega) (by have := Hsk.out; omega) (by rw [Hsk.out]; exact hsz)).mono ?_
        rintro e w2 ⟨rfl, hS2⟩
        have S3 : Aside (SZ enc w0 blk off (swR (m - i) (m + j - i) i dk) w2) := hS2
        clear hS2 S1
        rw [Hsk.out]
        go_wp2_with fail
        go_roundg gg
        case measure => omega
        case rel => exact ⟨i, j - i, _, rfl, by first | go_num | exact swInj (by have := Hij.out; omega), hi1, by have := Hij.out; omega, him, by omega, by omega, by rw [size_swR]; exact Hsk.out, S3, (show Hid _ from by
          have := HD.out
          rw [hgg, rotA, if_neg Hij.out, if_neg hji] at this
          exact this)⟩


set_option maxHeartbeats 16000000 in
set_option maxRecDepth 1000000 in
theorem insertion_any (enc : α → Value) (cf : α → α → Int) (g : Nat) (cb : Array Value) (blk off cap a b : Nat) (d0 d : Array α) (w0 w : World)
    (eg : ∀ args w, (callFunc g args).run Try.prog w = .ok (.enter g args) w) (hcmp : CmpZ Try.prog g cb enc cf blk off d0.size w0) (R : Row1 enc w0 blk off d0) (hs : d0.size = d.size) (S : SZ enc w0 blk off d w) (hab : a ≤ b) (hb : b ≤ d.size) (hsz : d.size < 4611686018427387904) :
    Calls Try.prog 89 #[.slice (some ⟨blk, off, none⟩) d.size cap, .int .i64 (a : Int), .int .i64 (b : Int), .func (.func g) #[] cb] w fun e w' => e = .returned (.tuple #[]) ∧ SZ enc w0 blk off (Sort.insertionSort (ltOf cf) d a b) w' := by
  have hcl0 := R.hO.cells
  simp only [Value.cells] at hcl0
  have hst := R.hO.store Try.prog
  have mixed := Try.insI.mixed
  have HC : Aside _ := hcmp
  have S0 : Aside (SZ enc w0 blk off d w) := S
  clear S
  clear hcmp
  go_enter Try.func89, Try.ntmps89
  go_wp2
  go_loopg [8] (b - a) (fun g1 vi wr => ∃ (i : Nat) (dk : Array α), vi = .int .i64 i ∧ a < i ∧ i ≤ b + 1 ∧ b + 1 - i ≤ g1 + 1 ∧ dk.size = d.size ∧ Aside (SZ enc w0 blk off dk wr) ∧ Hid (insOuter (ltOf cf) a b i dk = insOuter (ltOf cf) a b (a + 1) d))
  case atStart => exact ⟨a + 1, d, by go_num, by omega, by omega, by omega, rfl, S0, rfl⟩
  case round =>
    clear S0
    obtain ⟨i, dk, rfl, hai, hib, hg1, hsk, S1, HO⟩ := hrel
    by_cases hlt : i < b
    · have hltz : (i : Int) < (b : Int) := by omega
      go_wp2
      go_loopg [9] i (fun g2 vj wr2 => ∃ (j : Nat) (dj : Array α), vj = .int .i64 j ∧ a ≤ j ∧ j ≤ i ∧ j ≤ g2 ∧ dj.size = d.size ∧ Aside (SZ enc w0 blk off dj wr2) ∧ Hid (insInner (ltOf cf) a j dj = insInner (ltOf cf) a i dk))
      case atStart => exact ⟨i, dk, rfl, by omega, Nat.le_refl _, Nat.le_refl _, hsk, S1, rfl⟩
      case round =>
        clear S1
        obtain ⟨j, dj, rfl, haj, hji, hg2, hsj, SJ, HI⟩ := hrel
        have out : (j ≤ a ∨ (ltOf cf) dj[j]! dj[j - 1]! = false) → Hid (insOuter (ltOf cf) a b (i + 1) dj = insOuter (ltOf cf) a b (a + 1) d) := fun hs => by
          show _ = _
          rw [← HO.out, insOuter_go _ _ _ _ _ hlt, ← HI.out, insInner_stop _ _ _ _ hs]
        have OUT : Aside _ := out
        clear out
        by_cases hja : a < j
        · have hjaz : (a : Int) < (j : Int) := by omega
          obtain ⟨jp, hjp⟩ : ∃ q, q + 1 = j := ⟨j - 1, by omega⟩
          have zjp : (j : Int) = (jp : Int) + 1 := by omega
          have hjad : decide ((jp : Int) + 1 > (a : Int)) = true := decide_eq_true (by omega)
          have hjaz' : (a : Int) < (jp : Int) + 1 := by omega
          cases hlv : (ltOf cf) dj[j]! dj[j - 1]! with
          | true =>
            obtain ⟨iN2, hiN2⟩ : ∃ zz, zz = j := ⟨_, rfl⟩
            obtain ⟨jN2, hjN2⟩ : ∃ zz, zz = j - 1 := ⟨_, rfl⟩
            have eaN2 : ((jp : Int) + 1).toNat = iN2 := by omega
            have paN2 : (0 : Int) ≤ (jp : Int) + 1 := by omega
            have baN2 : (jp : Int) + 1 < (d.size : Int) := by omega
            have raN2 : IntKind.i64.wrap ((jp : Int) + 1) = (jp : Int) + 1 := by rw [IntKind.wrap_i64]; omega
            have ecN2 : ((jp : Int)).toNat = jN2 := by omega
            have pcN2 : (0 : Int) ≤ (jp : Int) := by omega
            have bcN2 : (jp : Int) < (d.size : Int) := by omega
            have rcN2 : IntKind.i64.wrap ((jp : Int)) = (jp : Int) := by rw [IntKind.wrap_i64]; omega
            obtain ⟨xN2, hxN2⟩ : ∃ x, x = dj[j]! := ⟨_, rfl⟩
            obtain ⟨yN2, hyN2⟩ : ∃ x, x = dj[j - 1]! := ⟨_, rfl⟩
            have lN2a := SJ.out.cl R (by omega) (j) (by omega)
            have lN2b := SJ.out.cl R (by omega) (j - 1) (by omega)
            rw [← hxN2, ← hiN2] at lN2a
            rw [← hyN2, ← hjN2] at lN2b
            have hcN2 := SJ.out.cmp HC.out (by omega) xN2 yN2
            have hvN2 : cf xN2 yN2 < 0 := by rw [hxN2, hyN2]; exact of_decide_eq_true hlv
            have hdN2 : decide (cf xN2 yN2 < 0) = true := decide_eq_true hvN2
            clear hxN2 hyN2 hiN2 hjN2
            go_wp2_with fail
            refine wp_region_quiet_z (by assumption) (by kernel_rfl) ?_
            repeat (quiet_step (first | (go_at_fn g; refine grown_z (hcN2 _ _))))
            refine wpQuiet_nil ?_
            intro _ hw'
            obtain ⟨⟨nq, osq⟩, hw''⟩ := hw'
            subst hw''
            have S2 : Aside (SZ enc w0 blk off dj (grow (atd wr nq) osq)) := SJ.out.grown nq osq
            clear lN2a lN2b hcN2 SJ
            generalize grow (atd wr nq) osq = w2 at S2 ⊢
            clear nq osq
            clear eaN2 ecN2 paN2 baN2 raN2 pcN2 bcN2 rcN2
            go_wp2_with fail
            obtain ⟨iN3, hiN3⟩ : ∃ zz, zz = j := ⟨_, rfl⟩
            obtain ⟨jN3, hjN3⟩ : ∃ zz, zz = j - 1 := ⟨_, rfl⟩
            have eaN3 : ((jp : Int) + 1).toNat = iN3 := by omega
            have paN3 : (0 : Int) ≤ (jp : Int) + 1 := by omega
            have baN3 : (jp : Int) + 1 < (d.size : Int) := by omega
            have raN3 : IntKind.i64.wrap ((jp : Int) + 1) = (jp : Int) + 1 := by rw [IntKind.wrap_i64]; omega
            have ecN3 : ((jp : Int)).toNat = jN3 := by omega
            have pcN3 : (0 : Int) ≤ (jp : Int) := by omega
            have bcN3 : (jp : Int) < (d.size : Int) := by omega
            have rcN3 : IntKind.i64.wrap ((jp : Int)) = (jp : Int) := by rw [IntKind.wrap_i64]; omega
            obtain ⟨xN3, hxN3⟩ : ∃ x, x = dj[j]! := ⟨_, rfl⟩
            obtain ⟨yN3, hyN3⟩ : ∃ x, x = dj[j - 1]! := ⟨_, rfl⟩
            have S3 : Aside (SZ enc w0 blk off (swp dj (j) (j - 1)) ((w2.setCell ⟨blk, off + iN3, none⟩ (enc yN3)).setCell ⟨blk, off + jN3, none⟩ (enc xN3)).drew) := by rw [hiN3, hjN3, hxN3, hyN3]; exact S2.out.swapped R (j) (j - 1) (by omega) (by omega)
            have cN3a := S2.out.c1 R (by omega) (j) (by omega)
            have cN3b := S2.out.c1 R (by omega) (j - 1) (by omega)
            have fN3a := S2.out.f1 R (by omega) (j) (by omega)
            have fN3b := S2.out.f1 R (by omega) (j - 1) (by omega)
            obtain ⟨uN3, cN3c⟩ := S2.out.c2 R (by omega) (j) (j - 1) (by omega) (by omega) (enc yN3)
            rw [← hjN3, ← hiN3] at cN3c
            rw [← hxN3, ← hiN3] at cN3a
            rw [← hyN3, ← hjN3] at cN3b
            rw [← hiN3] at fN3a
            rw [← hjN3] at fN3b
            clear S2 hxN3 hyN3 hiN3 hjN3
            go_wp2_with fail
            go_big_region_o
            clear cN3a cN3b cN3c fN3a fN3b
            generalize ((w2.setCell ⟨blk, off + iN3, none⟩ (enc yN3)).setCell ⟨blk, off + jN3, none⟩ (enc xN3)).drew = w3 at S3 ⊢
            clear eaN3 ecN3 paN3 baN3 raN3 pcN3 bcN3 rcN3
            go_wp2
            go_roundg (j - 1)
            case measure => omega
            case rel => exact ⟨j - 1, swp dj j (j - 1), by first | rfl | go_num | (congr 1; omega), by omega, by omega, Nat.le_refl _, by rw [size_swp]; exact hsj, S3, (show Hid _ from by rw [← HI.out, insInner_go (ltOf cf) a j dj hja hlv]; exact rfl)⟩
          | false =>
            obtain ⟨iN4, hiN4⟩ : ∃ zz, zz = j := ⟨_, rfl⟩
            obtain ⟨jN4, hjN4⟩ : ∃ zz, zz = j - 1 := ⟨_, rfl⟩
            have eaN4 : ((jp : Int) + 1).toNat = iN4 := by omega
            have paN4 : (0 : Int) ≤ (jp : Int) + 1 := by omega
            have baN4 : (jp : Int) + 1 < (d.size : Int) := by omega
            have raN4 : IntKind.i64.wrap ((jp : Int) + 1) = (jp : Int) + 1 := by rw [IntKind.wrap_i64]; omega
            have ecN4 : ((jp : Int)).toNat = jN4 := by omega
            have pcN4 : (0 : Int) ≤ (jp : Int) := by omega
            have bcN4 : (jp : Int) < (d.size : Int) := by omega
            have rcN4 : IntKind.i64.wrap ((jp : Int)) = (jp : Int) := by rw [IntKind.wrap_i64]; omega
            obtain ⟨xN4, hxN4⟩ : ∃ x, x = dj[j]! := ⟨_, rfl⟩
            obtain ⟨yN4, hyN4⟩ : ∃ x, x = dj[j - 1]! := ⟨_, rfl⟩
            have lN4a := SJ.out.cl R (by omega) (j) (by omega)
            have lN4b := SJ.out.cl R (by omega) (j - 1) (by omega)
            rw [← hxN4, ← hiN4] at lN4a
            rw [← hyN4, ← hjN4] at lN4b
            have hcN4 := SJ.out.cmp HC.out (by omega) xN4 yN4
            have hvN4 : ¬ cf xN4 yN4 < 0 := by rw [hxN4, hyN4]; exact of_decide_eq_false hlv
            have hdN4 : decide (cf xN4 yN4 < 0) = false := decide_eq_false hvN4
            clear hxN4 hyN4 hiN4 hjN4
            go_wp2_with fail
            refine wp_region_quiet_z (by assumption) (by kernel_rfl) ?_
            repeat (quiet_step (first | (go_at_fn g; refine grown_z (hcN4 _ _))))
            refine wpQuiet_nil ?_
            intro _ hw'
            obtain ⟨⟨nq, osq⟩, hw''⟩ := hw'
            subst hw''
            have S2 : Aside (SZ enc w0 blk off dj (grow (atd wr nq) osq)) := SJ.out.grown nq osq
            clear lN4a lN4b hcN4 SJ
            generalize grow (atd wr nq) osq = w2 at S2 ⊢
            clear nq osq
            clear eaN4 ecN4 paN4 baN4 raN4 pcN4 bcN4 rcN4
            go_wp2_with fail
            go_roundg (b - (i + 1))
            case measure => omega
            case rel => exact ⟨i + 1, dj, by go_num, by omega, by omega, by omega, hsj, S2, OUT.out (Or.inr hlv)⟩
        · have hjaz : decide ((j : Int) > (a : Int)) = false := decide_eq_false (by omega)
          have hjaz' : ¬ (a : Int) < (j : Int) := by omega
          go_wp2_with fail
          go_big_region_o
          have S2 : Aside (SZ enc w0 blk off dj wr.drew) := SJ.out.drew
          clear SJ
          generalize wr.drew = w2 at S2 ⊢
          go_wp2
          go_roundg (b - (i + 1))
          case measure => omega
          case rel => exact ⟨i + 1, dj, by go_num, by omega, by omega, by omega, hsj, S2, OUT.out (Or.inl (by omega))⟩
    · have hltz : ¬ (i : Int) < (b : Int) := by omega
      go_wp2
      go_end0
      exact ⟨rfl, by unfold Sort.insertionSort; rw [← HO.out, insOuter_stop _ _ _ _ _ hlt]; exact S1.out⟩

end Go.Proofs.Ytajmoclnmphmgaa
