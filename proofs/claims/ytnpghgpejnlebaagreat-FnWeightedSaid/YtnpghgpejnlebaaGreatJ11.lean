/-
  Slices of classes: copied, measured, compared by the law's own helpers.
  Lists of numbers compared; permutations trimmed: both sides.
  Classes in their order: the list that insertion makes is the only one. Plain.
  The shapes in a box and their permutations, for boxes of up to four: by looking at all. Plain.
  How great values are at four different numbers or fewer, and that they differ by multiples. Plain.
  The reference's length of a permutation; words as numbers.
  l1Same, slices.Equal, l7Same.
  The reference's words and its sums over subwords: the walks.
  The reference's sums over subwords: l8Sum, l8Local, Localize.
  double: the double Schubert polynomial of a permutation.
-/
import Derived.Test.YtnpghgpejnlebaaGreatJ3
import Derived.Test.YtnpghgpejnlebaaGreatJ1
import Derived.Test.YtnpghgpejnlebaaGreatJ2
import Derived.Test.YtnpghgpejnlebaaGreatJ5
import Derived.Test.YtnpghgpejnlebaaGreatJ10
import Derived.Test.YtnpghgpejnlebaaGreatJ9
import Derived.Test.YtnpghgpejnlebaaGreatJ8
import Derived.Deep.RegionHeld3
namespace Go.Proofs.YtnpghgpejnlebaaGreat
set_option linter.all false
open Go.RowKit

abbrev Cls := List Int × Int
def clD : Cls := ([], 0)
/-- the fields of classes, the permutations' slices being f -/
def clF (cs : List Cls) (f : Nat → Value) (i j : Nat) : Value :=
  match j with
  | 0 => f i
  | _ => .int .i64 (cs.getD i clD).2
/-- classes that can be read, at the head of a block -/
def RdCl (w : World) (v : Value) (cs : List Cls) : Prop := ∃ f, RdS w 2 v cs.length (clF cs f) ∧ ∀ i, i < cs.length → Ints w (f i) (cs.getD i clD).1
theorem RdCl.below {w w' : World} {v : Value} {cs : List Cls} (h : RdCl w v cs) (hb : Below w.heap.size w w') : RdCl w' v cs := by
  obtain ⟨f, h1, h2⟩ := h
  exact ⟨f, h1.below hb, fun i hi => (h2 i hi).below hb⟩
theorem RdS.two {w : World} {v : Value} {cs : List Cls} {f : Nat → Value} (h : RdS w 2 v cs.length (clF cs f)) : ∃ p cap, v = .slice p cs.length cap ∧ (cs.length ≤ cap ∧ cap ≤ maxLen) ∧
    (0 < cs.length → ∃ b, p = some ⟨b, 0, none⟩ ∧ ∀ i, i < cs.length → w.cell? ⟨b, i * 2, none⟩ = some (f i) ∧ w.cell? ⟨b, i * 2 + 1, none⟩ = some (.int .i64 (cs.getD i clD).2)) := by
  obtain ⟨p, cap, rfl, hm, h⟩ := h
  refine ⟨p, cap, rfl, hm, fun h0 => ?_⟩
  obtain ⟨b, hp, hx⟩ := h h0
  exact ⟨b, hp, fun i hi => ⟨hx i hi 0 (by omega), hx i hi 1 (by omega)⟩⟩
/-- classes that a call made -/
def OwnCl (w : World) (lo hi : Nat) (v : Value) (cs : List Cls) : Prop :=
  ∃ g, OwnS w lo hi 61 2 v cs.length (clF cs g) ∧ ∀ i, i < cs.length → OwnI 3 w lo hi (g i) (cs.getD i clD).1
theorem OwnCl.rd {w : World} {lo hi : Nat} {v : Value} {cs : List Cls} (h : OwnCl w lo hi v cs) : RdCl w v cs := by
  obtain ⟨g, h1, h2⟩ := h
  exact ⟨g, h1.rd, fun i hi => (h2 i hi).ints⟩
theorem OwnCl.below {w w' : World} {lo hi : Nat} {v : Value} {cs : List Cls} (h : OwnCl w lo hi v cs) (hb : Below w.heap.size w w') : OwnCl w' lo hi v cs := by
  obtain ⟨g, h1, h2⟩ := h
  exact ⟨g, h1.below hb, fun i hi => (h2 i hi).below hb⟩
theorem OwnCl.mono {w : World} {lo hi lo' hi' : Nat} {v : Value} {cs : List Cls} (h : OwnCl w lo hi v cs) (a : lo' ≤ lo) (b : hi ≤ hi') : OwnCl w lo' hi' v cs := by
  obtain ⟨g, h1, h2⟩ := h
  exact ⟨g, h1.mono a b, fun i hi => (h2 i hi).mono a b⟩
theorem OwnCl.setCell {w : World} {lo hi : Nat} {v : Value} {cs : List Cls} (h : OwnCl w lo hi v cs) {a : Addr} (ho : a.block < lo ∨ hi ≤ a.block) (u : Value) : OwnCl (w.setCell a u) lo hi v cs := by
  obtain ⟨g, h1, h2⟩ := h
  exact ⟨g, h1.setCell ho u, fun i hi => (h2 i hi).setCell ho u⟩
theorem OwnCl.shape {w : World} {lo hi : Nat} {v : Value} {cs : List Cls} (h : OwnCl w lo hi v cs) : ∃ p cap, v = .slice p cs.length cap ∧ cs.length ≤ cap ∧ cap ≤ maxLen := by
  obtain ⟨g, h1, _⟩ := h
  obtain ⟨p, cap, e, h2, h3, _⟩ := h1.shape
  exact ⟨p, cap, e, h2, h3⟩
/-- classes that came in, wherever they lie -/
def RdClA (w : World) (v : Value) (cs : List Cls) : Prop :=
  ∃ (p : Option Addr) (cap : Nat) (f : Nat → Value), v = .slice p cs.length cap ∧ (cs.length ≤ cap ∧ cap ≤ maxLen) ∧
    (0 < cs.length → ∃ b off, p = some ⟨b, off, none⟩ ∧ ∀ i, i < cs.length → w.cell? ⟨b, off + i * 2, none⟩ = some (f i) ∧ w.cell? ⟨b, off + i * 2 + 1, none⟩ = some (.int .i64 (cs.getD i clD).2)) ∧
    ∀ i, i < cs.length → Ints w (f i) (cs.getD i clD).1
theorem RdClA.below {w w' : World} {v : Value} {cs : List Cls} (h : RdClA w v cs) (hb : Below w.heap.size w w') : RdClA w' v cs := by
  obtain ⟨p, cap, f, e, h1, h2, h3⟩ := h
  refine ⟨p, cap, f, e, h1, fun h0 => ?_, fun i hi => (h3 i hi).below hb⟩
  obtain ⟨b, off, hp, hx⟩ := h2 h0
  exact ⟨b, off, hp, fun i hi => ⟨cell_below hb (hx i hi).1, cell_below hb (hx i hi).2⟩⟩

/-- none of the lists is too long -/
def ClsFit (cs : List Cls) : Prop := cs.length ≤ 1048576 ∧ ∀ i, i < cs.length → (cs.getD i clD).1.length ≤ 1048576

theorem szI_cases (left : Int) (n : Nat) (h0 : 0 ≤ left) : szI left n = -1 ∨ (0 ≤ szI left n ∧ szI left n ≤ left ∧ (n : Int) ≤ left) := by
  unfold szI; split <;> omega

theorem blk2 {w : World} {b : Nat} {x0 x1 : Value} {T : TypeId} (h : w.heap[b]? = some (.cells #[x0, x1] T (0, 0))) :
    w.cell? ⟨b, 0, none⟩ = some x0 ∧ w.cell? ⟨b, 1, none⟩ = some x1 ∧ (∀ j, w.frozen? ⟨b, j, none⟩ = false) ∧ b < w.heap.size :=
  ⟨cell_of_blk h rfl, cell_of_blk h rfl, free_of_blk h, blk_lt h⟩
theorem set2_all {w : World} {b : Nat} {x0 x1 : Value} {T : TypeId} (h : w.heap[b]? = some (.cells #[x0, x1] T (0, 0))) (y0 y1 : Value) :
    ((w.setCell ⟨b, 0, none⟩ y0).setCell ⟨b, 1, none⟩ y1).heap[b]? = some (.cells #[y0, y1] T (0, 0)) := by
  have e := heap_setCell_at (heap_setCell_at h 0 y0) 1 y1
  simpa using e

theorem info_cls : (Tryz.prog.info? 61).map (fun i => (i.zero, i.size, i.bytes)) = some (some (.agg #[.slice none 0 0, .int .i64 0]), 2, 32) := by kernel_rfl
/-- make of structs -/
theorem run_make_S {P : Program} (t e : TypeId) (z : Value) (size bytes : Nat) (ht : P.underlying t = some (.slice e)) (hinfo : (P.info? e).map (fun i => (i.zero, i.size, i.bytes)) = some (some z, size, bytes)) (n : Nat) (hn : n ≤ 1048576) (hb : bytes ≤ 1000) (w : World) :
    (Instr.makeSlice t (.int .i64 (n : Int)) (.int .i64 (n : Int))).run P w = .ok (.slice (some ⟨w.heap.size, 0, none⟩) n n) (w.alloc (.cells (madeCells z.cells (n * size)) e)) := by
  obtain ⟨i, hi, hz, hsz, hby⟩ := info_partsS hinfo
  have hm : (i.bytes : Int) * (n : Int) ≤ 1000 * 1048576 := by
    have := Nat.mul_le_mul (show i.bytes ≤ 1000 by omega) hn
    have h2 : ((i.bytes * n : Nat) : Int) ≤ 1000 * 1048576 := by omega
    rwa [Int.natCast_mul] at h2
  have := run_make (P := P) w t e i z ht hi hz .i64 .i64 (n : Int) (n : Int) (by omega) (Int.le_refl _) (by omega) (by omega)
  rw [hsz] at this
  simpa using this
theorem made_S (w : World) (T : TypeId) (z0 z1 : Value) (n : Nat) (hn : n ≤ 1048576) : OwnS (w.alloc (.cells (madeCells #[z0, z1] (n * 2)) T)) w.heap.size (w.heap.size + 1) T 2 (.slice (some ⟨w.heap.size, 0, none⟩) n n) n (fun _ j => if j = 0 then z0 else z1) := by
  refine ⟨(madeCells #[z0, z1] (n * 2)).toList, ⟨⟨by simp [madeCells], .inr ⟨w.heap.size, n, _, rfl, Nat.le_refl _, heap_alloc_top _ _, Nat.le_refl _, by unfold maxLen; omega, by simp [madeCells], ?_⟩⟩, fun k hk => by simp [Value.ownBlock] at hk; omega⟩, fun i hi j hj => ?_⟩
  · rw [List.take_of_length_le (by simp [madeCells])]
  · have hlt : i * 2 + j < n * 2 := by omega
    have hm : (i * 2 + j) % 2 = j := by omega
    have hg : ∀ t, t < n * 2 → (madeCells #[z0, z1] (n * 2)).toList[t]? = some ((#[z0, z1] : Array Value)[t % 2]!) := fun t h => by simp [madeCells, h]
    rw [hg _ hlt, hm]
    have : j = 0 ∨ j = 1 := by omega
    rcases this with rfl | rfl <;> rfl

theorem keep4w {wr W W' : World} {a0 a1 a2 a3 : Addr} {v0 v1 v2 v3 : Value} (hb : Below W.heap.size W W') (h : (W.cell? a0 = some v0 ∧ W.cell? a1 = some v1 ∧ W.cell? a2 = some v2 ∧ W.cell? a3 = some v3) ∧ Below wr.heap.size wr W) :
    (W'.cell? a0 = some v0 ∧ W'.cell? a1 = some v1 ∧ W'.cell? a2 = some v2 ∧ W'.cell? a3 = some v3) ∧ Below wr.heap.size wr W' :=
  ⟨⟨cell_below hb h.1.1, cell_below hb h.1.2.1, cell_below hb h.1.2.2.1, cell_below hb h.1.2.2.2⟩, below_trans h.2 hb⟩

end Go.Proofs.YtnpghgpejnlebaaGreat

namespace Go.Proofs.YtnpghgpejnlebaaGreat
set_option linter.all false
open Go.RowKit

/-- at the first difference, or a proper beginning first -/
def ltB : List Int → List Int → Bool
  | [], [] => false
  | [], _ :: _ => true
  | _ :: _, [] => false
  | x :: xs, y :: ys => if x < y then true else if y < x then false else ltB xs ys
def cmpB : List Int → List Int → Int
  | [], [] => 0
  | [], _ :: _ => -1
  | _ :: _, [] => 1
  | x :: xs, y :: ys => if x < y then -1 else if y < x then 1 else cmpB xs ys
theorem cmpB_lt : ∀ xs ys, decide (0 ≤ cmpB xs ys) = !ltB xs ys
  | [], [] => rfl
  | [], _ :: _ => rfl
  | _ :: _, [] => rfl
  | x :: xs, y :: ys => by
    unfold cmpB ltB
    by_cases h1 : x < y
    · simp [h1]
    · by_cases h2 : y < x
      · simp [h1, h2]
      · simp only [h1, h2, if_false]; exact cmpB_lt xs ys
theorem cmpB_cases : ∀ xs ys, cmpB xs ys = -1 ∨ cmpB xs ys = 0 ∨ cmpB xs ys = 1
  | [], [] => by simp [cmpB]
  | [], _ :: _ => by simp [cmpB]
  | _ :: _, [] => by simp [cmpB]
  | x :: xs, y :: ys => by
    unfold cmpB
    by_cases h1 : x < y
    · simp [h1]
    · by_cases h2 : y < x
      · simp [h1, h2]
      · simp only [h1, h2, if_false]; exact cmpB_cases xs ys
theorem drop_at {xs : List Int} {k : Nat} (h : k < xs.length) : xs.drop k = xs.getD k 0 :: xs.drop (k + 1) := by
  rw [List.drop_eq_getElem_cons h, List.getD_eq_getElem?_getD, List.getElem?_eq_getElem h]; rfl
theorem drop_end {xs : List Int} {k : Nat} (h : xs.length ≤ k) : xs.drop k = [] := List.drop_eq_nil_iff.2 h

/-- how many places are left when those at the end are struck that are not moved -/
def trimN (xs : List Int) : Nat → Nat
  | 0 => 0
  | n + 1 => if 1 ≤ n ∧ xs.getD n 0 = (n : Int) then trimN xs n else n + 1
theorem trimN_le (xs : List Int) : ∀ n, trimN xs n ≤ n
  | 0 => Nat.le_refl _
  | n + 1 => by
    unfold trimN
    split
    · exact Nat.le_trans (trimN_le xs n) (Nat.le_succ _)
    · exact Nat.le_refl _
def trimL (xs : List Int) : List Int := xs.take (trimN xs xs.length)
theorem trimL_length (xs : List Int) : (trimL xs).length = trimN xs xs.length := by
  unfold trimL; rw [List.length_take]; have := trimN_le xs xs.length; omega

/-- the first numbers of a list, as a slice -/
theorem ints_take2 {w : World} {p : Option Addr} {cap : Nat} {xs : List Int} (h : Ints w (.slice p xs.length cap) xs) {i : Nat} (hi : i ≤ xs.length) : Ints w (.slice p i cap) (xs.take i) := by
  obtain ⟨q, c, e, ⟨h1, h2⟩, h3⟩ := h
  injection e with e1 e2 e3
  subst e1 e3
  have hl : (xs.take i).length = i := by rw [List.length_take]; omega
  refine ⟨p, cap, by rw [hl], ⟨by omega, h2⟩, fun h0 => ?_⟩
  obtain ⟨b, off, hp, hx⟩ := h3 (by omega)
  refine ⟨b, off, hp, fun j hj => ?_⟩
  rw [hx j (by omega)]
  unfold iv
  rw [List.getD_eq_getElem?_getD, List.getD_eq_getElem?_getD, List.getElem?_take_of_lt (by omega)]

set_option maxRecDepth 100000 in
theorem isNaN_any (n : Int) (w : World) : Calls Tryz.prog 76 #[.int .i64 n] w fun e w' => e = .returned (.bool false) ∧ w = w' := by
  have h : (n != n) = false := by simp
  go_enter Tryz.func76, Tryz.ntmps76
  go_wp2
  go_ret
  exact ⟨rfl, rfl⟩
set_option maxRecDepth 100000 in
theorem cmpInt_any (a b : Int) (w : World) : Calls Tryz.prog 61 #[.int .i64 a, .int .i64 b] w fun e w' => e = .returned (.int .i64 (if a < b then -1 else if b < a then 1 else 0)) ∧ w = w' := by
  go_enter Tryz.func61, Tryz.ntmps61
  by_cases h1 : a < b
  · go_wp2_with (go_at_call 76; refine (isNaN_any _ _).mono ?_; rintro e w' ⟨rfl, rfl⟩)
    go_ret
    exact ⟨ret_int (by simp [h1]), rfl⟩
  · by_cases h2 : b < a
    · go_wp2_with (go_at_call 76; refine (isNaN_any _ _).mono ?_; rintro e w' ⟨rfl, rfl⟩)
      go_ret
      exact ⟨ret_int (by simp [h1, h2]), rfl⟩
    · go_wp2_with (go_at_call 76; refine (isNaN_any _ _).mono ?_; rintro e w' ⟨rfl, rfl⟩)
      go_ret
      exact ⟨ret_int (by simp [h1, h2]), rfl⟩

set_option maxRecDepth 100000 in
set_option maxHeartbeats 1000000 in
theorem compare_any (u v : Value) (xs ys : List Int) (w : World) (h1 : Ints w u xs) (h2 : Ints w v ys) :
    Calls Tryz.prog 44 #[u, v] w fun e w' => e = .returned (.int .i64 (cmpB xs ys)) ∧ w = w' := by
  obtain ⟨p, cap, rfl, ⟨hx1, hx⟩, hxc⟩ := h1
  obtain ⟨q, cap', rfl, ⟨hy1, hy⟩, hyc⟩ := h2
  unfold maxLen at hx hy
  have Hxc := Lib.hid hxc
  have Hyc := Lib.hid hyc
  clear hxc hyc
  go_enter Tryz.func44, Tryz.ntmps44
  go_wp2
  go_loop [11] (fun s => ∃ k : Nat, k ≤ xs.length ∧ k ≤ ys.length ∧ s = .int .i64 k ∧ Hid (cmpB xs ys = cmpB (xs.drop k) (ys.drop k))) (fun s => xs.length - (intOf s).toNat)
  case atStart => exact ⟨0, Nat.zero_le _, Nat.zero_le _, rfl, rfl⟩
  case round =>
    obtain ⟨k, hk, hk2, rfl, hc⟩ := hrel
    by_cases hlt : k < xs.length
    · have hlt1 : (k : Int) < (xs.length : Int) := by omega
      have hlt0 : (0 : Int) ≤ (k : Int) := by omega
      obtain ⟨b, off, rfl, hcx⟩ := Hxc.out (by omega)
      have c1 := hcx k hlt
      unfold iv at c1
      by_cases hlt2 : k < ys.length
      · have hlt3 : ¬ (ys.length : Int) ≤ (k : Int) := by omega
        have hlt4 : (k : Int) < (ys.length : Int) := by omega
        obtain ⟨b', off', rfl, hcy⟩ := Hyc.out (by omega)
        have c2 := hcy k hlt2
        unfold iv at c2
        have Hd := Lib.hid (show cmpB xs ys = if xs.getD k 0 < ys.getD k 0 then -1 else if ys.getD k 0 < xs.getD k 0 then 1 else cmpB (xs.drop (k + 1)) (ys.drop (k + 1)) by rw [hc.out, drop_at hlt, drop_at hlt2]; rfl)
        obtain ⟨x, hx'⟩ : ∃ x, x = xs.getD k 0 := ⟨_, rfl⟩
        obtain ⟨y, hy'⟩ : ∃ y, y = ys.getD k 0 := ⟨_, rfl⟩
        rw [← hx', ← hy'] at Hd
        rw [← hx'] at c1
        rw [← hy'] at c2
        clear hx' hy' hcx hcy hc
        go_wp2_with fail
        refine (cmpInt_any _ _ _).mono ?_
        rintro e w' ⟨rfl, rfl⟩
        by_cases h1 : x < y
        · rw [if_pos h1]
          have Hf := Lib.hid (show cmpB xs ys = -1 by rw [Hd.out, if_pos h1])
          go_wp2_with fail
          go_ret
          exact ⟨ret_int Hf.out.symm, rfl⟩
        · by_cases h2 : y < x
          · rw [if_neg h1, if_pos h2]
            have Hf := Lib.hid (show cmpB xs ys = 1 by rw [Hd.out, if_neg h1, if_pos h2])
            go_wp2_with fail
            go_ret
            exact ⟨ret_int Hf.out.symm, rfl⟩
          · rw [if_neg h1, if_neg h2]
            have Hf := Lib.hid (show cmpB xs ys = cmpB (xs.drop (k + 1)) (ys.drop (k + 1)) by rw [Hd.out, if_neg h1, if_neg h2])
            clear Hd
            go_wp2_with fail
            go_round
            case rel => exact ⟨k + 1, by omega, by omega, by go_num, Hf.out⟩
            case measure => simp [intOf]; omega
      · obtain rfl : k = ys.length := by omega
        have hlt3 : (ys.length : Int) ≤ (ys.length : Int) := by omega
        have Hf := Lib.hid (show cmpB xs ys = 1 by rw [hc.out, drop_at hlt, drop_end (Nat.le_refl _)]; rfl)
        clear hc
        go_wp2_with fail
        go_ret
        exact ⟨ret_int Hf.out.symm, rfl⟩
    · obtain rfl : k = xs.length := by omega
      have hlt1 : ¬ (xs.length : Int) < (xs.length : Int) := by omega
      by_cases hl : xs.length < ys.length
      · have hl2 : (xs.length : Int) < (ys.length : Int) := by omega
        have Hf := Lib.hid (show cmpB xs ys = -1 by rw [hc.out, drop_end (Nat.le_refl _), drop_at hl]; rfl)
        clear hc
        go_wp2_with fail
        go_ret
        exact ⟨ret_int Hf.out.symm, rfl⟩
      · have hl2 : ¬ (xs.length : Int) < (ys.length : Int) := by omega
        have Hf := Lib.hid (show cmpB xs ys = 0 by rw [hc.out, drop_end (Nat.le_refl _), drop_end (by omega)]; rfl)
        have hl3 : decide (xs.length < ys.length) = false := by simp; omega
        clear hc
        go_wp2_with fail
        go_ret
        exact ⟨ret_int Hf.out.symm, rfl⟩

set_option maxRecDepth 100000 in
set_option maxHeartbeats 1000000 in
theorem implTrim_yes (v : Value) (xs : List Int) (w : World) (h : Ints w v xs) (hp : permOk xs = true) :
    Calls Tryz.prog 28 #[v] w (RetI w (trimL xs)) := by
  have hl : xs.length ≤ 7 := (of_decide_eq_true hp).2.1
  have Hp := Lib.hid hp
  clear hp
  have Hh := Lib.hid h
  obtain ⟨p, cap, rfl, ⟨hx1, hx⟩, hxc⟩ := h
  unfold maxLen at hx
  clear hxc
  go_enter Tryz.func28, Tryz.ntmps28
  go_wp2_with fail
  refine (implIsPerm_b _ xs _ Hp.out _ Hh.out).mono ?_
  rintro e w1 ⟨rfl, hb⟩
  have Hb := Lib.hid hb
  have Hh1 := Lib.hid (Hh.out.below hb)
  clear hb
  go_wp2_with fail
  go_loop [3] (fun s => ∃ n : Nat, n ≤ xs.length ∧ s = .int .i64 n ∧ Hid (trimN xs xs.length = trimN xs n)) (fun s => (intOf s).toNat)
  case atStart => exact ⟨xs.length, Nat.le_refl _, rfl, rfl⟩
  case round =>
    obtain ⟨n, hn, rfl, ht⟩ := hrel
    have fin : trimN xs n = n → Hid (trimN xs xs.length = n) := fun h => by rw [Hid, ht.out, h]
    by_cases h1 : 1 < n
    · have h2 : (1 : Int) < (n : Int) := by omega
      have i1 : (0 : Int) ≤ (n : Int) - 1 := by omega
      have i2 : (n : Int) - 1 < (xs.length : Int) := by omega
      have i3 : ((n : Int) - 1).toNat = n - 1 := by omega
      obtain ⟨_, _, e, _, hxc⟩ := Hh1.out
      injection e with e1 e2 e3
      subst e1 e3
      obtain ⟨b, off, rfl, hc⟩ := hxc (by omega)
      have c1 := hc (n - 1) (by omega)
      unfold iv at c1
      obtain ⟨x, hx'⟩ : ∃ x, x = xs.getD (n - 1) 0 := ⟨_, rfl⟩
      rw [← hx'] at c1
      have Ht := Lib.hid (show trimN xs n = if 1 ≤ n - 1 ∧ x = ((n - 1 : Nat) : Int) then trimN xs (n - 1) else n by
        obtain ⟨m, rfl⟩ : ∃ m, n = m + 1 := ⟨n - 1, by omega⟩
        rw [hx']; rfl)
      clear hx' hxc hc
      by_cases he : x = (n : Int) - 1
      · subst he
        have Hf := Lib.hid (show trimN xs xs.length = trimN xs (n - 1) by rw [ht.out, Ht.out, if_pos ⟨by omega, by omega⟩])
        clear Ht ht fin
        go_wp2_with fail
        go_round
        case rel => exact ⟨n - 1, by omega, by congr 1; omega, Hf.out⟩
        case measure => simp [intOf]; omega
      · have hz : (x == (n : Int) - 1) = false := by simp [he]
        have Hn := fin (by rw [Ht.out, if_neg (by rintro ⟨_, h⟩; omega)])
        have j1 : (0 : Int) ≤ (n : Int) := by omega
        have j2 : (n : Int) ≤ (cap : Int) := by omega
        clear Ht ht fin
        go_wp2_with fail
        refine (clone_any _ (xs.take n) _ (ints_take2 Hh1.out hn) (by rw [List.length_take]; omega)).mono ?_
        rintro e w2 ⟨u, rfl, ho, hb2⟩
        obtain ⟨pv, kv, rfl, _, _⟩ := ho.shape
        rw [show (xs.take n).length = n by rw [List.length_take]; omega] at ho ⊢
        have Ho := Lib.hid ho
        clear ho
        go_wp2_with fail
        go_ret
        refine ⟨_, rfl, ?_, ?_⟩
        · show OwnI _ _ _ _ _ (xs.take (trimN xs xs.length))
          rw [Hn.out]
          exact Ho.out.mono Hb.out.size (Nat.le_refl _)
        · exact Hb.out.trans (hb2.mono Hb.out.size)
    · have h2 : ¬ (1 : Int) < (n : Int) := by omega
      have Hn := fin (by
        match n, h1 with
        | 0, _ => rfl
        | 1, _ => rfl
        | n + 2, h => omega)
      have j1 : (0 : Int) ≤ (n : Int) := by omega
      have j2 : (n : Int) ≤ (cap : Int) := by omega
      clear ht fin
      go_wp2_with fail
      refine (clone_any _ (xs.take n) _ (ints_take2 Hh1.out hn) (by rw [List.length_take]; omega)).mono ?_
      rintro e w2 ⟨u, rfl, ho, hb2⟩
      obtain ⟨pv, kv, rfl, _, _⟩ := ho.shape
      rw [show (xs.take n).length = n by rw [List.length_take]; omega] at ho ⊢
      have Ho := Lib.hid ho
      clear ho
      go_wp2_with fail
      go_ret
      refine ⟨_, rfl, ?_, ?_⟩
      · show OwnI _ _ _ _ _ (xs.take (trimN xs xs.length))
        rw [Hn.out]
        exact Ho.out.mono Hb.out.size (Nat.le_refl _)
      · exact Hb.out.trans (hb2.mono Hb.out.size)

end Go.Proofs.YtnpghgpejnlebaaGreat

namespace Go.Proofs.YtnpghgpejnlebaaGreat
set_option linter.all false
open Go.RowKit

theorem ltB_irrefl : ∀ xs, ltB xs xs = false
  | [] => rfl
  | x :: xs => by unfold ltB; rw [if_neg (by omega), if_neg (by omega)]; exact ltB_irrefl xs
theorem ltB_total : ∀ xs ys, ltB xs ys = false → ltB ys xs = false → xs = ys
  | [], [], _, _ => rfl
  | [], _ :: _, h, _ => by simp [ltB] at h
  | _ :: _, [], _, h => by simp [ltB] at h
  | x :: xs, y :: ys, h1, h2 => by
    unfold ltB at h1 h2
    by_cases a : x < y
    · rw [if_pos a] at h1; cases h1
    · by_cases b : y < x
      · rw [if_pos b] at h2; cases h2
      · rw [if_neg a, if_neg b] at h1
        rw [if_neg b, if_neg a] at h2
        rw [ltB_total xs ys h1 h2, show x = y by omega]
theorem ltB_trans : ∀ xs ys zs, ltB xs ys = true → ltB ys zs = true → ltB xs zs = true
  | [], _, [], h1, h2 => by
    rename_i ys
    cases ys with
    | nil => simp [ltB] at h1
    | cons y ys => simp [ltB] at h2
  | [], _, _ :: _, _, _ => rfl
  | x :: xs, [], _, h1, _ => by simp [ltB] at h1
  | x :: xs, y :: ys, [], _, h2 => by simp [ltB] at h2
  | x :: xs, y :: ys, z :: zs, h1, h2 => by
    unfold ltB at h1 h2 ⊢
    by_cases a : x < y
    · by_cases b : y < z
      · rw [if_pos (by omega)]
      · rw [if_neg b] at h2
        by_cases c : z < y
        · rw [if_pos c] at h2; cases h2
        · rw [if_pos (by omega)]
    · rw [if_neg a] at h1
      by_cases a2 : y < x
      · rw [if_pos a2] at h1; cases h1
      · rw [if_neg a2] at h1
        by_cases b : y < z
        · rw [if_pos (by omega)]
        · rw [if_neg b] at h2
          by_cases c : z < y
          · rw [if_pos c] at h2; cases h2
          · rw [if_neg c] at h2
            rw [if_neg (by omega), if_neg (by omega)]
            exact ltB_trans xs ys zs h1 h2
theorem ltB_ntrans (xs ys zs : List Int) (h1 : ltB xs ys = false) (h2 : ltB ys zs = false) : ltB xs zs = false := by
  cases h : ltB xs zs with
  | false => rfl
  | true =>
    exfalso
    cases a : ltB ys xs with
    | true => rw [ltB_trans _ _ _ a h] at h2; cases h2
    | false =>
      rw [ltB_total _ _ h1 a] at h
      rw [h] at h2; cases h2
theorem ltB_asym {xs ys : List Int} (h : ltB xs ys = true) : ltB ys xs = false := by
  cases a : ltB ys xs with
  | false => rfl
  | true => have := ltB_trans _ _ _ h a; rw [ltB_irrefl] at this; cases this
theorem cmpB_neg (xs ys : List Int) : decide (cmpB xs ys < 0) = ltB xs ys := by
  have := cmpB_lt xs ys
  by_cases h : 0 ≤ cmpB xs ys
  · rw [decide_eq_true h] at this
    rw [decide_eq_false (by omega)]
    cases hl : ltB xs ys with
    | false => rfl
    | true => rw [hl] at this; cases this
  · rw [decide_eq_false h] at this
    rw [decide_eq_true (by omega)]
    cases hl : ltB xs ys with
    | false => rw [hl] at this; cases this
    | true => rfl

/-- put in where it belongs -/
def insC (c : Cls) : List Cls → List Cls
  | [] => [c]
  | x :: l => if ltB x.1 c.1 then x :: insC c l else c :: x :: l
def srtC (cs : List Cls) : List Cls := cs.foldl (fun l c => insC c l) []
theorem insC_perm (c : Cls) : ∀ l, (insC c l).Perm (c :: l)
  | [] => List.Perm.refl _
  | x :: l => by
    rw [insC]
    split
    · exact ((insC_perm c l).cons x).trans (List.Perm.swap c x l)
    · exact List.Perm.refl _
theorem insC_fold_perm : ∀ (cs acc : List Cls), (cs.foldl (fun l c => insC c l) acc).Perm (cs ++ acc)
  | [], acc => List.Perm.refl _
  | c :: cs, acc => by
    rw [List.foldl_cons]
    exact (insC_fold_perm cs _).trans (((insC_perm c acc).append_left cs).trans (List.perm_middle))
theorem srtC_perm (cs : List Cls) : (srtC cs).Perm cs := by
  have := insC_fold_perm cs []
  rw [List.append_nil] at this
  exact this
def AscC (cs : List Cls) : Prop := cs.Pairwise fun a b => ltB a.1 b.1 = true
theorem insC_asc {c : Cls} : ∀ {l : List Cls}, AscC l → (∀ x ∈ l, x.1 ≠ c.1) → AscC (insC c l)
  | [], _, _ => List.pairwise_singleton _ _
  | x :: l, h, hn => by
    obtain ⟨h1, h2⟩ := List.pairwise_cons.1 h
    rw [insC]
    by_cases e : ltB x.1 c.1 = true
    · rw [if_pos e]
      refine List.pairwise_cons.2 ⟨fun y hy => ?_, insC_asc h2 fun y hy => hn y (List.mem_cons_of_mem _ hy)⟩
      rcases List.mem_cons.1 ((insC_perm c l).mem_iff.1 hy) with rfl | hy
      · exact e
      · exact h1 y hy
    · rw [if_neg e]
      have e2 : ltB c.1 x.1 = true := by
        cases a : ltB c.1 x.1 with
        | true => rfl
        | false => exact absurd (ltB_total _ _ (by simpa using e) a) (hn x List.mem_cons_self)
      refine List.pairwise_cons.2 ⟨fun y hy => ?_, h⟩
      rcases List.mem_cons.1 hy with rfl | hy
      · exact e2
      · exact ltB_trans _ _ _ e2 (h1 y hy)
theorem fold_asc : ∀ (cs acc : List Cls), AscC acc → ((cs ++ acc).map (·.1)).Nodup → AscC (cs.foldl (fun l c => insC c l) acc)
  | [], acc, h, _ => h
  | c :: cs, acc, h, hn => by
    rw [List.foldl_cons]
    have hn' := hn
    rw [List.cons_append, List.map_cons, List.nodup_cons] at hn'
    refine fold_asc cs _ (insC_asc h fun x hx e => hn'.1 ?_) ?_
    · rw [← e]
      exact List.mem_map.2 ⟨x, List.mem_append_right _ hx, rfl⟩
    · refine (List.Perm.nodup_iff ?_).2 hn
      exact (((insC_perm c acc).append_left cs).trans List.perm_middle).map _
theorem srtC_asc {cs : List Cls} (h : (cs.map (·.1)).Nodup) : AscC (srtC cs) := fold_asc cs [] List.Pairwise.nil (by rw [List.append_nil]; exact h)
theorem asc_one : ∀ {a b : List Cls}, AscC a → AscC b → a.Perm b → a = b
  | [], b, _, _, h => (List.nil_perm.1 h).symm
  | x :: a, [], _, _, h => absurd h.length_eq (by simp)
  | x :: a, y :: b, ha, hb, h => by
    obtain ⟨a1, a2⟩ := List.pairwise_cons.1 ha
    obtain ⟨b1, b2⟩ := List.pairwise_cons.1 hb
    have hx : x ∈ y :: b := h.mem_iff.1 List.mem_cons_self
    have hy : y ∈ x :: a := h.mem_iff.2 List.mem_cons_self
    have e : x = y := by
      rcases List.mem_cons.1 hx with e | hx
      · exact e
      · rcases List.mem_cons.1 hy with e | hy
        · exact e.symm
        · have c1 := b1 x hx
          have c2 := a1 y hy
          rw [ltB_asym c1] at c2; cases c2
    subst e
    rw [asc_one a2 b2 (List.Perm.cons_inv h)]
/-- what is sorted is what insertion makes -/
theorem srtC_eq {cs cs' : List Cls} (hn : (cs.map (·.1)).Nodup) (hp : cs'.Perm cs) (hs : cs'.Pairwise fun a b => ltB b.1 a.1 = false) : cs' = srtC cs := by
  refine asc_one ?_ (srtC_asc hn) (hp.trans (srtC_perm cs).symm)
  have hn' : (cs'.map (·.1)).Nodup := (List.Perm.nodup_iff (hp.map _)).2 hn
  have key : ∀ l : List Cls, (l.map (·.1)).Nodup → (l.Pairwise fun a b => ltB b.1 a.1 = false) → AscC l := fun l => by
    induction l with
    | nil => exact fun _ _ => List.Pairwise.nil
    | cons x l ih =>
      intro h1 h2
      rw [List.map_cons, List.nodup_cons] at h1
      obtain ⟨p1, p2⟩ := List.pairwise_cons.1 h2
      refine List.pairwise_cons.2 ⟨fun y hy => ?_, ih h1.2 p2⟩
      cases a : ltB x.1 y.1 with
      | true => rfl
      | false => exact absurd (List.mem_map.2 ⟨y, hy, ltB_total _ _ (p1 y hy) a⟩) h1.1
  exact key cs' hn' hs

end Go.Proofs.YtnpghgpejnlebaaGreat

namespace Go.Proofs.YtnpghgpejnlebaaGreat
set_option linter.all false
set_option maxRecDepth 100000
open Go.RowKit

/-- the shapes: numbers from 1 on that do not grow -/
def DCh : Int → List Int → Prop
  | _, [] => True
  | m, x :: l => 1 ≤ x ∧ x ≤ m ∧ DCh x l
theorem dch_of : ∀ (xs : List Int) (m : Int), (∀ j, j < xs.length → 1 ≤ xs.getD j 0 ∧ (0 < j → xs.getD j 0 ≤ xs.getD (j - 1) 0)) → (0 < xs.length → xs.getD 0 0 ≤ m) → DCh m xs
  | [], _, _, _ => trivial
  | x :: l, m, h, hm => by
    have h0 := (h 0 (by simp)).1
    have hx := hm (by simp)
    simp only [List.getD_cons_zero] at h0 hx
    refine ⟨h0, hx, dch_of l x (fun j hj => ?_) fun hl => ?_⟩
    · have := h (j + 1) (by simpa using hj)
      simp only [List.getD_cons_succ] at this
      refine ⟨this.1, fun hj0 => ?_⟩
      have h2 := this.2 (by omega)
      rw [show j + 1 - 1 = (j - 1) + 1 by omega, List.getD_cons_succ] at h2
      exact h2
    · have := (h 1 (by simpa using hl)).2 (by omega)
      simpa using this
theorem dch_mem : ∀ (r m : Nat) (xs : List Int), DCh (m : Int) xs → xs.length ≤ r → xs ∈ ishs r m
  | 0, m, [], _, _ => by simp [ishs]
  | 0, m, _ :: _, _, h => by simp at h
  | r + 1, m, [], _, _ => by simp [ishs]
  | r + 1, m, x :: l, h, hl => by
    obtain ⟨h1, h2, h3⟩ := h
    rw [ishs]
    refine List.mem_cons_of_mem _ (List.mem_flatMap.2 ⟨x.toNat - 1, by simp; omega, List.mem_map.2 ⟨l, dch_mem r _ l ?_ (by simpa using hl), ?_⟩⟩)
    · rw [show ((x.toNat - 1 + 1 : Nat) : Int) = x by omega]; exact h3
    · rw [show ((x.toNat - 1 : Nat) : Int) + 1 = x by omega]
theorem bx_mem {sh : List Int} {k n : Nat} (h : bxOk sh k n = true) (hk : k ≤ n) : sh ∈ ishs k (n - k) := by
  unfold bxOk at h
  simp only [Bool.and_eq_true, decide_eq_true_eq] at h
  obtain ⟨⟨h1, h2⟩, h3⟩ := h
  obtain ⟨_, hs⟩ := shOk_facts h1
  refine dch_mem _ _ _ (dch_of _ _ (fun j hj => ⟨(hs j hj).1, (hs j hj).2.2⟩) fun _ => by omega) h2

/-- a permutation with numbers put behind it -/
def growL (t : List Int) (n : Nat) : List Int := t ++ (List.range (n - t.length)).map fun (i : Nat) => ((t.length + i : Nat) : Int)
/-- ascending but at k - 1 -/
def grB (k n : Nat) (w : List Int) : Bool := (List.range (n - 1)).all fun j => decide (j + 1 = k) || ascB j w
def shpB (n k : Nat) : Bool :=
  ((permsL n).filter (grB k n)).isPerm ((ishs k (n - k)).map fun sh => gpW sh k n) &&
  ((ishs k (n - k)).all fun sh => permOk (gpW sh k n) && decide ((gpW sh k n).length = n) && decide (growL (trimL (gpW sh k n)) n = gpW sh k n) && decide (shL ((List.range k).map fun (i : Nat) => (gpW sh k n).getD (k - 1 - i) 0 - ((k - 1 - i : Nat) : Int)) = sh) && decide (sh.length ≤ 4) && bxOk sh k n) &&
  decide ((ishs k (n - k)).Pairwise fun a b => ltB a b = true) && decide ((ishs k (n - k)).length ≤ 6)
def shpB4 (n : Nat) : Bool := (List.range (n + 1)).all fun k => shpB n k
set_option maxRecDepth 100000 in
theorem shp_dec : ∀ n : Fin 4, shpB4 (n.val + 1) = true := by decide +kernel
structure ShpIs (n k : Nat) : Prop where
  perm : ((permsL n).filter (grB k n)).Perm ((ishs k (n - k)).map fun sh => gpW sh k n)
  p5 : ∀ sh ∈ ishs k (n - k), P5 n (gpW sh k n)
  grow : ∀ sh ∈ ishs k (n - k), growL (trimL (gpW sh k n)) n = gpW sh k n
  back : ∀ sh ∈ ishs k (n - k), shL ((List.range k).map fun (i : Nat) => (gpW sh k n).getD (k - 1 - i) 0 - ((k - 1 - i : Nat) : Int)) = sh
  short : ∀ sh ∈ ishs k (n - k), sh.length ≤ 4
  box : ∀ sh ∈ ishs k (n - k), bxOk sh k n = true
  asc : (ishs k (n - k)).Pairwise fun a b => ltB a b = true
  six : (ishs k (n - k)).length ≤ 6
theorem shpIs {n k : Nat} (h1 : 1 ≤ n) (h4 : n ≤ 4) (hk : k ≤ n) : ShpIs n k := by
  have := shp_dec ⟨n - 1, by omega⟩
  rw [show (⟨n - 1, by omega⟩ : Fin 4).val + 1 = n by simp; omega] at this
  simp only [shpB4, List.all_eq_true, List.mem_range] at this
  have := this k (by omega)
  simp only [shpB, Bool.and_eq_true, List.all_eq_true, decide_eq_true_eq] at this
  obtain ⟨⟨⟨a, b⟩, c⟩, d⟩ := this
  exact ⟨List.isPerm_iff.1 a, fun sh hs => ⟨(b sh hs).1.1.1.1.1, (b sh hs).1.1.1.1.2, by omega⟩, fun sh hs => (b sh hs).1.1.1.2, fun sh hs => (b sh hs).1.1.2, fun sh hs => (b sh hs).1.2, fun sh hs => (b sh hs).2, c, d⟩

end Go.Proofs.YtnpghgpejnlebaaGreat

namespace Go.Proofs.YtnpghgpejnlebaaGreat
set_option linter.all false
open Go.RowKit

/-! ### the subwords, as lists of pairs -/
def subsW (v : List Int) : List Nat → List Int → List Int → List (List (Int × Int))
  | [], _, h => if h = v then [[]] else []
  | k :: r, u, h => subsW v r (sw k u) h ++ (if ascB k h then (subsW v r (sw k u) (sw k h)).map ((u.getD (k + 1) 0, u.getD k 0) :: ·) else [])
def sumP (ys : List Int) : List (List (Int × Int)) → Int
  | [] => 0
  | l :: S => prodP ys l + sumP ys S
theorem sumP_append (ys : List Int) : ∀ A B, sumP ys (A ++ B) = sumP ys A + sumP ys B
  | [], B => by simp [sumP]
  | l :: A, B => by rw [List.cons_append, sumP, sumP, sumP_append ys A B]; omega
theorem sumP_map (ys : List Int) (p : Int × Int) : ∀ A, sumP ys (A.map (p :: ·)) = (ys.getD p.1.toNat 0 - ys.getD p.2.toNat 0) * sumP ys A
  | [] => by simp [sumP]
  | l :: A => by rw [List.map_cons, sumP, sumP, sumP_map ys p A, prodP, Int.mul_add]
theorem sumS_subs (v ys : List Int) : ∀ (r : List Nat) (u h : List Int), sumS v ys r u h = sumP ys (subsW v r u h)
  | [], u, h => by
    rw [sumS, subsW]
    by_cases e : h = v
    · rw [if_pos e, if_pos e]; simp [sumP, prodP]
    · rw [if_neg e, if_neg e]; rfl
  | k :: r, u, h => by
    rw [sumS, subsW, sumP_append, sumS_subs v ys r]
    congr 1
    cases ascB k h with
    | true => rw [if_pos rfl, if_pos rfl, sumP_map, sumS_subs v ys r]
    | false => rfl

def nd (ys : List Int) (p : Int × Int) : Nat := (ys.getD p.1.toNat 0 - ys.getD p.2.toNat 0).natAbs
def prodN (ys : List Int) : List (Int × Int) → Nat
  | [] => 1
  | p :: l => nd ys p * prodN ys l
theorem prodP_abs (ys : List Int) : ∀ l, (prodP ys l).natAbs = prodN ys l
  | [] => rfl
  | p :: l => by rw [prodP, prodN, Int.natAbs_mul, prodP_abs ys l]; rfl
theorem prodN_perm (ys : List Int) {a b : List (Int × Int)} (h : a.Perm b) : prodN ys a = prodN ys b := by
  induction h with
  | nil => rfl
  | cons x _ ih => rw [prodN, prodN, ih]
  | swap x y l => simp only [prodN]; rw [Nat.mul_left_comm]
  | trans _ _ a b => exact a.trans b
def normP (p : Int × Int) : Int × Int := if p.1 ≤ p.2 then p else (p.2, p.1)
theorem prodN_norm (ys : List Int) : ∀ l, prodN ys (l.map normP) = prodN ys l
  | [] => rfl
  | p :: l => by
    rw [List.map_cons, prodN, prodN, prodN_norm ys l]
    congr 1
    unfold normP nd
    split
    · rfl
    · dsimp only; omega
theorem prodN_small (ys : List Int) (hd : ∀ p, nd ys p ≤ 18) : ∀ l, prodN ys l ≤ 18 ^ l.length
  | [] => Nat.le_refl _
  | p :: l => by rw [prodN, List.length_cons, Nat.pow_succ, Nat.mul_comm (18 ^ _)]; exact Nat.mul_le_mul (hd p) (prodN_small ys hd l)
theorem sumP_abs (ys : List Int) (B : Nat) : ∀ S, (∀ l ∈ S, prodN ys l ≤ B) → (sumP ys S).natAbs ≤ S.length * B
  | [], _ => by simp [sumP]
  | l :: S, h => by
    rw [sumP, List.length_cons, Nat.add_mul, Nat.one_mul]
    have a := sumP_abs ys B S fun x hx => h x (List.mem_cons_of_mem _ hx)
    have b := h l List.mem_cons_self
    rw [← prodP_abs] at b
    omega

/-! ### six differences of four numbers -/
def six : List (Int × Int) := [(0, 1), (1, 2), (2, 3), (0, 2), (1, 3), (0, 3)]
def sixB (a b c : Nat) : Bool :=
  let d01 := if a ≤ 18 then 18 - a else a - 18
  let d12 := if b ≤ 18 then 18 - b else b - 18
  let d23 := if c ≤ 18 then 18 - c else c - 18
  let d02 := if a + b ≤ 36 then 36 - (a + b) else a + b - 36
  let d13 := if b + c ≤ 36 then 36 - (b + c) else b + c - 36
  let d03 := if a + b + c ≤ 54 then 54 - (a + b + c) else a + b + c - 54
  if 18 < d02 then true else if 18 < d13 then true else if 18 < d03 then true else
  Nat.ble (d01 * d12 * d23 * d02 * d13 * d03) 1000000 && (Nat.ble (d12 * d23 * d02 * d13 * d03) 500000 && (Nat.ble (d01 * d23 * d02 * d13 * d03) 500000 && (Nat.ble (d01 * d12 * d02 * d13 * d03) 500000 && (Nat.ble (d01 * d12 * d23 * d13 * d03) 500000 && (Nat.ble (d01 * d12 * d23 * d02 * d03) 500000 && Nat.ble (d01 * d12 * d23 * d02 * d13) 500000)))))
def sixAll : Bool := (List.range 37).all fun a => (List.range 37).all fun b => (List.range 37).all fun c => sixB a b c
set_option maxRecDepth 100000 in
theorem six_all : sixAll = true := by decide +kernel
theorem six_at {ys : List Int} (hy9 : ∀ i : Nat, -9 ≤ ys.getD i 0 ∧ ys.getD i 0 ≤ 9) : prodN ys six ≤ 1000000 ∧ ∀ i : Fin 6, prodN ys (six.eraseIdx i.val) ≤ 500000 := by
  have h0 := hy9 0
  have h1 := hy9 1
  have h2 := hy9 2
  have h3 := hy9 3
  obtain ⟨y0, e0⟩ : ∃ y, y = ys.getD 0 0 := ⟨_, rfl⟩
  obtain ⟨y1, e1⟩ : ∃ y, y = ys.getD 1 0 := ⟨_, rfl⟩
  obtain ⟨y2, e2⟩ : ∃ y, y = ys.getD 2 0 := ⟨_, rfl⟩
  obtain ⟨y3, e3⟩ : ∃ y, y = ys.getD 3 0 := ⟨_, rfl⟩
  rw [← e0] at h0
  rw [← e1] at h1
  rw [← e2] at h2
  rw [← e3] at h3
  have hs := six_all
  unfold sixAll at hs
  simp only [List.all_eq_true, List.mem_range] at hs
  have hs := hs (y1 - y0 + 18).toNat (by omega) (y2 - y1 + 18).toNat (by omega) (y3 - y2 + 18).toNat (by omega)
  obtain ⟨d01, g01⟩ : ∃ d, d = (y0 - y1).natAbs := ⟨_, rfl⟩
  obtain ⟨d12, g12⟩ : ∃ d, d = (y1 - y2).natAbs := ⟨_, rfl⟩
  obtain ⟨d23, g23⟩ : ∃ d, d = (y2 - y3).natAbs := ⟨_, rfl⟩
  obtain ⟨d02, g02⟩ : ∃ d, d = (y0 - y2).natAbs := ⟨_, rfl⟩
  obtain ⟨d13, g13⟩ : ∃ d, d = (y1 - y3).natAbs := ⟨_, rfl⟩
  obtain ⟨d03, g03⟩ : ∃ d, d = (y0 - y3).natAbs := ⟨_, rfl⟩
  unfold sixB at hs
  have r01 : (if (y1 - y0 + 18).toNat ≤ 18 then 18 - (y1 - y0 + 18).toNat else (y1 - y0 + 18).toNat - 18) = d01 := by split <;> omega
  have r12 : (if (y2 - y1 + 18).toNat ≤ 18 then 18 - (y2 - y1 + 18).toNat else (y2 - y1 + 18).toNat - 18) = d12 := by split <;> omega
  have r23 : (if (y3 - y2 + 18).toNat ≤ 18 then 18 - (y3 - y2 + 18).toNat else (y3 - y2 + 18).toNat - 18) = d23 := by split <;> omega
  have r02 : (if (y1 - y0 + 18).toNat + (y2 - y1 + 18).toNat ≤ 36 then 36 - ((y1 - y0 + 18).toNat + (y2 - y1 + 18).toNat) else (y1 - y0 + 18).toNat + (y2 - y1 + 18).toNat - 36) = d02 := by split <;> omega
  have r13 : (if (y2 - y1 + 18).toNat + (y3 - y2 + 18).toNat ≤ 36 then 36 - ((y2 - y1 + 18).toNat + (y3 - y2 + 18).toNat) else (y2 - y1 + 18).toNat + (y3 - y2 + 18).toNat - 36) = d13 := by split <;> omega
  have r03 : (if (y1 - y0 + 18).toNat + (y2 - y1 + 18).toNat + (y3 - y2 + 18).toNat ≤ 54 then 54 - ((y1 - y0 + 18).toNat + (y2 - y1 + 18).toNat + (y3 - y2 + 18).toNat) else (y1 - y0 + 18).toNat + (y2 - y1 + 18).toNat + (y3 - y2 + 18).toNat - 54) = d03 := by split <;> omega
  rw [r01, r12, r23, r02, r13, r03] at hs
  rw [if_neg (by omega), if_neg (by omega), if_neg (by omega)] at hs
  simp only [Bool.and_eq_true, Nat.ble_eq] at hs
  have n01 : nd ys (0, 1) = d01 := by rw [g01, e0, e1]; rfl
  have n12 : nd ys (1, 2) = d12 := by rw [g12, e1, e2]; rfl
  have n23 : nd ys (2, 3) = d23 := by rw [g23, e2, e3]; rfl
  have n02 : nd ys (0, 2) = d02 := by rw [g02, e0, e2]; rfl
  have n13 : nd ys (1, 3) = d13 := by rw [g13, e1, e3]; rfl
  have n03 : nd ys (0, 3) = d03 := by rw [g03, e0, e3]; rfl
  obtain ⟨s0, s1, s2, s3, s4, s5, s6⟩ := hs
  refine ⟨?_, fun i => ?_⟩
  · simp only [six, prodN, n01, n12, n23, n02, n13, n03, Nat.mul_one]
    simpa only [Nat.mul_assoc] using s0
  · match i with
    | ⟨0, _⟩ => simp only [six, List.eraseIdx, prodN, n01, n12, n23, n02, n13, n03, Nat.mul_one]; simpa only [Nat.mul_assoc] using s1
    | ⟨1, _⟩ => simp only [six, List.eraseIdx, prodN, n01, n12, n23, n02, n13, n03, Nat.mul_one]; simpa only [Nat.mul_assoc] using s2
    | ⟨2, _⟩ => simp only [six, List.eraseIdx, prodN, n01, n12, n23, n02, n13, n03, Nat.mul_one]; simpa only [Nat.mul_assoc] using s3
    | ⟨3, _⟩ => simp only [six, List.eraseIdx, prodN, n01, n12, n23, n02, n13, n03, Nat.mul_one]; simpa only [Nat.mul_assoc] using s4
    | ⟨4, _⟩ => simp only [six, List.eraseIdx, prodN, n01, n12, n23, n02, n13, n03, Nat.mul_one]; simpa only [Nat.mul_assoc] using s5
    | ⟨5, _⟩ => simp only [six, List.eraseIdx, prodN, n01, n12, n23, n02, n13, n03, Nat.mul_one]; simpa only [Nat.mul_assoc] using s6
    | ⟨k + 6, h⟩ => omega

/-! ### the bound -/
def bndS (S : List (List (Int × Int))) : Bool :=
  (decide (S.length ≤ 9) && S.all fun l => decide (l.length ≤ 4)) || (decide (S.length ≤ 2) && S.all fun l => (List.range 6).any fun i => (l.map normP).isPerm (six.eraseIdx i)) || (decide (S.length ≤ 1) && S.all fun l => (l.map normP).isPerm six)
def bndB (v w : List Int) : Bool := bndS (subsW v (fstL w) (idL w.length) (idL w.length))
set_option maxRecDepth 100000 in
theorem bnd_all : pair4 bndB = true := by decide +kernel
theorem FW_bound {n : Nat} {ys v w : List Int} (hy : ys.length = n) (h1 : 1 ≤ n) (h4 : n ≤ 4) (hy9 : ∀ x ∈ ys, -9 ≤ x ∧ x ≤ 9) (hv : P5 n v) (hw : P5 n w) : (FW n ys v w).natAbs ≤ 1000000 := by
  have hb := pair4_at bnd_all hv hw h4
  have hwd := wrd_at hw
  have hval := sum_val hy h1 (by omega) _ (fstL w) v rfl hv hwd.2.1
  rw [hwd.1, sumS_subs] at hval
  rw [hval]
  unfold bndB at hb
  rw [hw.len] at hb
  obtain ⟨S, hS⟩ : ∃ S, S = subsW v (fstL w) (idL n) (idL n) := ⟨_, rfl⟩
  rw [← hS] at hb ⊢
  have yr : ∀ i : Nat, -9 ≤ ys.getD i 0 ∧ ys.getD i 0 ≤ 9 := fun i => by
    by_cases hi : i < ys.length
    · exact hy9 _ (getD_mem hi)
    · rw [List.getD_eq_getElem?_getD, List.getElem?_eq_none (by omega)]; simp
  have hd : ∀ p, nd ys p ≤ 18 := fun p => by
    have a := yr p.1.toNat
    have b := yr p.2.toNat
    unfold nd
    omega
  have h6 := six_at yr
  unfold bndS at hb
  simp only [Bool.or_eq_true, Bool.and_eq_true, List.all_eq_true, decide_eq_true_eq, List.any_eq_true, List.mem_range] at hb
  rcases hb with (⟨a, b⟩ | ⟨a, b⟩) | ⟨a, b⟩
  · have := sumP_abs ys (18 ^ 4) S fun l hl => Nat.le_trans (prodN_small ys hd l) (Nat.pow_le_pow_right (by omega) (b l hl))
    have := Nat.mul_le_mul_right (18 ^ 4) a
    omega
  · have := sumP_abs ys 500000 S fun l hl => by
      obtain ⟨i, hi, hp⟩ := b l hl
      rw [← prodN_norm, prodN_perm ys (List.isPerm_iff.1 hp)]
      exact h6.2 ⟨i, hi⟩
    have := Nat.mul_le_mul_right 500000 a
    omega
  · have := sumP_abs ys 1000000 S fun l hl => by
      rw [← prodN_norm, prodN_perm ys (List.isPerm_iff.1 (b l hl))]
      exact h6.1
    have := Nat.mul_le_mul_right 1000000 a
    omega

/-! ### values differ by multiples -/
theorem pickL_swap {n : Nat} {p ys : List Int} (hp : P5 n p) {i j : Nat} (hi : i < n) (hj : j < n) (t : Nat) : Mg (yAt ys p i - yAt ys p j) ((pickL p ys).getD t 0) ((pickL (swapL p i j) ys).getD t 0) := by
  have h5 := hp.le
  have hl := hp.len
  by_cases h7 : t < 7
  · rw [pickL_getD _ _ h7, pickL_getD _ _ h7]
    unfold pick
    rw [swapL_length]
    by_cases ht : t < p.length
    · rw [if_pos ht, if_pos ht, swapL_getD (by omega) (by omega)]
      by_cases h1 : t = j
      · rw [if_pos h1, h1]
        show Mg _ (yAt ys p j) (yAt ys p i)
        exact ⟨-1, by omega⟩
      · rw [if_neg h1]
        by_cases h2 : t = i
        · rw [if_pos h2, h2]
          show Mg _ (yAt ys p i) (yAt ys p j)
          exact ⟨1, by omega⟩
        · rw [if_neg h2]; exact Mg.refl _ _
    · rw [if_neg ht, if_neg ht]; exact Mg.refl _ _
  · have a : ∀ y, (pickL y ys).getD t 0 = 0 := fun y => by rw [List.getD_eq_getElem?_getD, List.getElem?_eq_none (by rw [pickL_length]; omega)]; rfl
    rw [a, a]; exact Mg.refl _ _
theorem FW_swap {n : Nat} {p ys : List Int} (hp : P5 n p) {i j : Nat} (hi : i < n) (hj : j < n) (v : List Int) : Mg (yAt ys p i - yAt ys p j) (FW n ys v p) (FW n ys v (swapL p i j)) :=
  EV_mg (pickL_swap hp hi hj)
theorem Mg.tmod {N a b : Int} (h : Mg N a b) : (a - b).tmod N = 0 := by
  obtain ⟨m, rfl⟩ := h
  have : b + N * m - b = N * m := by omega
  rw [this]
  exact Int.mul_tmod_right N m

end Go.Proofs.YtnpghgpejnlebaaGreat

namespace Go.Proofs.YtnpghgpejnlebaaGreat
set_option linter.all false
open Go.RowKit

/-- a word as numbers -/
def wz (r : List Nat) : List Int := r.map fun (k : Nat) => (k : Int)
theorem wz_length (r : List Nat) : (wz r).length = r.length := by simp [wz]
theorem wz_getD {r : List Nat} {j : Nat} (h : j < r.length) : (wz r).getD j 0 = (r.getD j 0 : Nat) := by simp [wz, List.getD_eq_getElem?_getD, h]
theorem wz_snoc (r : List Nat) (k : Nat) : wz (r ++ [k]) = wz r ++ [(k : Int)] := by simp [wz]

end Go.Proofs.YtnpghgpejnlebaaGreat

namespace Go.Proofs.YtnpghgpejnlebaaGreat
set_option linter.all false
open Go.RowKit

set_option maxRecDepth 100000 in
set_option maxHeartbeats 400000 in
theorem sliceEq_any (v1 v2 : Value) (xs ys : List Int) (w : World) (h1 : Ints w v1 xs) (h2 : Ints w v2 ys) :
    Calls Tryz.prog 29 #[v1, v2] w fun e w' => e = .returned (.bool (decide (xs = ys))) ∧ Qt w w' := by
  obtain ⟨p, cap, rfl, ⟨hx1, hx⟩, hxc⟩ := h1
  obtain ⟨q, cap', rfl, ⟨hy1, hy⟩, hyc⟩ := h2
  unfold maxLen at hx hy
  by_cases hl : xs.length = ys.length
  · have e1 : ((xs.length : Int) != (ys.length : Int)) = false := by simp [hl]
    have Hl := Lib.hid hl
    clear hl
    go_enter Tryz.func29, Tryz.ntmps29
    go_wp2
    clear e1
    go_loopg [5, 13] xs.length (fun g s5 i wr => ∃ k : Nat, k ≤ xs.length ∧ g = xs.length - k ∧ i = .int .i64 k ∧ Qt w wr ∧ Hid (∀ j, j < k → xs.getD j 0 = ys.getD j 0))
    case atStart => exact ⟨0, Nat.zero_le _, rfl, rfl, Qt.refl _, fun j hj => absurd hj (Nat.not_lt_zero _)⟩
    case round =>
      obtain ⟨k, hk, rfl, rfl, hq, hp⟩ := hrel
      by_cases hlt : k < xs.length
      · obtain ⟨b, off, rfl, hc⟩ := hxc (by omega)
        have hl := Hl.out
        obtain ⟨b', off', rfl, hc'⟩ := hyc (by omega)
        have c1 := hq.cell (hc k hlt)
        have c2 := hq.cell (hc' k (by omega))
        have hk2 : k < ys.length := by omega
        unfold iv at c1 c2
        clear hl hxc hyc hc hc'
        go_wp2
        go_quiet (fail)
        go_wp2
        · have ht : (xs[k] != ys[k]) = true := by assumption
          go_ret
          refine ⟨ret_bool ?_, hq.drewN _⟩
          symm
          simp only [decide_eq_false_iff_not]
          intro e
          subst e
          simp at ht
        · have ht : (xs[k] != ys[k]) = false := by assumption
          go_roundg (xs.length - (k + 1))
          case measure => omega
          case rel =>
            refine ⟨k + 1, by omega, rfl, by go_num, hq.drewN _, eq_snoc hp.out ?_⟩
            have := by simpa using ht
            simpa [List.getD_eq_getElem?_getD, hlt, hk2] using this
      · go_wp2
        go_ret
        refine ⟨ret_bool ?_, hq⟩
        symm
        simp only [decide_eq_true_eq]
        exact getD_eq_list Hl.out fun j hj => hp.out j (by omega)
  · have e1 : ((xs.length : Int) != (ys.length : Int)) = true := by simp; omega
    go_enter Tryz.func29, Tryz.ntmps29
    go_wp2
    go_ret
    refine ⟨ret_bool ?_, Qt.refl _⟩
    symm
    simp only [decide_eq_false_iff_not]
    intro e
    exact hl (by rw [e])

theorem sliceEq_b (v1 v2 : Value) (xs ys : List Int) (w : World) (h1 : Ints w v1 xs) (h2 : Ints w v2 ys) :
    Calls Tryz.prog 29 #[v1, v2] w fun e w' => e = .returned (.bool (decide (xs = ys))) ∧ Below w.heap.size w w' :=
  (sliceEq_any v1 v2 xs ys w h1 h2).mono fun _ _ ⟨h, hq⟩ => ⟨h, hq.below _⟩

end Go.Proofs.YtnpghgpejnlebaaGreat

namespace Go.Proofs.YtnpghgpejnlebaaGreat
set_option linter.all false
set_option maxRecDepth 100000
open Go.RowKit

/-- a list that lies in no block that grows -/
def Apart (v u : Value) : Prop := ∀ b off l k, v = .slice (some ⟨b, off, none⟩) l k → u.ownBlock ≠ some b
theorem Ints.grown {w w' : World} {v u : Value} {xs : List Int} (h : Ints w v xs) (hg : w.grownBy w' u.ownBlock) (hn : Apart v u) : Ints w' v xs := by
  obtain ⟨p, cap, rfl, h1, hc⟩ := h
  refine ⟨p, cap, rfl, h1, fun h0 => ?_⟩
  obtain ⟨b, off, rfl, hc2⟩ := hc h0
  refine ⟨b, off, rfl, fun j hj => ?_⟩
  have hc0 := hc2 j hj
  rw [← hc0]
  exact World.cell?_of_block (hg.block b (World.block_lt_of_cell? _ _ hc0) (fun e => hn b off _ _ rfl e.symm))
theorem Ints.apart {w : World} {v u : Value} {xs : List Int} (h : Ints w v xs) (h0 : 0 < xs.length) {lo : Nat} (hlo : w.heap.size ≤ lo) (hu : ∀ k, u.ownBlock = some k → lo ≤ k) : Apart v u := by
  obtain ⟨p, cap, rfl, h1, hc⟩ := h
  obtain ⟨b, off, rfl, hc2⟩ := hc h0
  intro b' off' l k e hb
  injection e with e
  injection e with e
  injection e with e1
  subst e1
  have : b < w.heap.size := World.block_lt_of_cell? _ _ (hc2 0 h0)
  have := hu _ hb
  omega
theorem apart_own {T : TypeId} {w : World} {lo hi : Nat} {v u : Value} {xs : List Int} (h : OwnI T w lo hi v xs) (hu : ∀ k, u.ownBlock = some k → k < lo) : Apart v u := by
  intro b off l k e hb
  have h1 := hu _ hb
  have := h.fn.blocks b (by rw [e]; rfl)
  omega

end Go.Proofs.YtnpghgpejnlebaaGreat

namespace Go.Proofs.YtnpghgpejnlebaaGreat
set_option linter.all false
set_option maxRecDepth 100000
open Go.RowKit

theorem wrap_cg (x : Int) : Cg (wrap64 x) x := ⟨(wrap64 x - x) / M64, by unfold wrap64 M64; omega⟩
theorem wrap_eq {x y : Int} (h : Cg x y) : wrap64 x = wrap64 y := by
  obtain ⟨m, rfl⟩ := h
  unfold wrap64 M64; omega
/-- numbers of a permutation, each a place -/
def PlcOk (n : Nat) (u : List Int) : Prop := u.length = n ∧ ∀ j, j < n → ∃ m : Nat, u.getD j 0 = (m : Int) ∧ m < n
theorem PlcOk.sw {n : Nat} {u : List Int} (h : PlcOk n u) {k : Nat} (hk : k + 1 < n) : PlcOk n (sw k u) := by
  refine ⟨by rw [sw_length]; exact h.1, fun j hj => ?_⟩
  rw [Go.Proofs.YtnpghgpejnlebaaGreat.sw, swapL_getD (by rw [h.1]; omega) (by rw [h.1]; omega)]
  split
  · exact h.2 k (by omega)
  · split
    · exact h.2 (k + 1) hk
    · exact h.2 j hj

end Go.Proofs.YtnpghgpejnlebaaGreat

namespace Go.Proofs.YtnpghgpejnlebaaGreat
set_option linter.all false
set_option maxRecDepth 100000
open Go.RowKit Go.Maps Go.WideMaps Go.WideElems Go.MapKept Go.ChangeMaps Go.ChangeShapes

/-- how many factors there are ahead of row i -/
def topS (n : Nat) : Nat → Nat
  | 0 => 0
  | i + 1 => topS n i + (n - 1 - i)
theorem topS_le {n i j : Nat} (hn : n ≤ 5) (hi : i < n) (hj : j ≤ n - 1 - i) : topS n i + j ≤ 10 := by
  have h : ∀ n : Fin 6, ∀ i : Fin 6, (i : Nat) < n → topS n i + (n - 1 - i) ≤ 10 := by decide
  have := h ⟨n, by omega⟩ ⟨i, by omega⟩ hi
  simp only at this
  omega
theorem topS_end {n : Nat} (hn : n ≤ 5) : topS n n ≤ 10 := by
  have h : ∀ n : Fin 6, topS n n ≤ 10 := by decide
  exact h ⟨n, by omega⟩

set_option maxRecDepth 100000 in
set_option maxHeartbeats 4000000 in
theorem double_any (vw vy : Value) (xs ys : List Int) (w : World) (hw : Ints w vw xs) (hy : Ints w vy ys) (h1 : 1 ≤ xs.length) (h5 : xs.length ≤ 5) (hyl : ys.length = xs.length) (hb : ∀ x ∈ ys, -9 ≤ x ∧ x ≤ 9) (hok : lowOk 10 xs = true) :
    Calls Tryz.prog 66 #[vw, vy] w fun e w' => ∃ u', e = .returned u' ∧ PolV w' u' 10 10240000000000 (dblP xs ys) ∧ Below w.heap.size w w' := by
  have Hw := Lib.hid hw
  have Hy := Lib.hid hy
  obtain ⟨pw, cw, rfl, ⟨hw1, hw2⟩, hwc⟩ := hw
  obtain ⟨py, cy, rfl, ⟨hy1, hy2⟩, hyc⟩ := hy
  unfold maxLen at hw2 hy2
  have Hyc := Lib.hid hyc
  have hmm := @run_makeMap Tryz.prog
  have hbd := buildE
  have hkey : keyOf Tryz.prog 106 (.agg #[.int .i64 0, .int .i64 0, .int .i64 0, .int .i64 0, .int .i64 0, .int .i64 0, .int .i64 0]) = some (kl [0, 0, 0, 0, 0, 0, 0]) := keyOf_kv (e := [0, 0, 0, 0, 0, 0, 0]) (d := 0) ⟨rfl, by simp⟩ (by omega)
  have hown0 := World.ownsMap_made (H := Unit) w Tryz.prog 106 (plainElem Tryz.prog 3)
  clear hwc hyc
  go_enter Tryz.func66, Tryz.ntmps66
  go_wp2_with (first
    | (refine wpList_insert_own rfl _ _ _ rfl w.heap.size 0 _ rfl hown0 (by omega) _ _ 1 rfl rfl hkey (by decide) ?_; intro w0 hown1 hg0; go_frame)
    | fail)
  have hp0 : PolV w0 (.map (some w.heap.size)) 0 1 (topI xs.length ys 0) := ⟨_, _, rfl, hown1, by
    have := (PolM.empty 0).putNew (e := [0, 0, 0, 0, 0, 0, 0]) (c := 1) (by omega) ⟨rfl, by simp⟩ rfl (by decide)
    exact this⟩
  have Hp0 := Lib.hid hp0
  have Hb0 := Lib.hid (show Below w.heap.size w w0 from ((Below.refl _ _).alloc (Nat.le_refl _) _).grown hg0 (by simp) (fun j hj => by cases hj; exact Nat.le_refl _))
  obtain ⟨n, hn⟩ : ∃ n, n = xs.length := ⟨_, rfl⟩
  have hn5 : n ≤ 5 := by omega
  have hn1 : 1 ≤ n := by omega
  obtain ⟨B, hB⟩ : ∃ B, B = w.heap.size := ⟨_, rfl⟩
  rw [hyl] at hy1 ⊢
  rw [← hn] at hyl hw1 hy1 Hp0 ⊢
  have hb0 := Lib.hid hb
  clear hown1 hp0 hg0 hown0 hkey hbd hmm hb
  have Hn := Lib.hid hn
  have HB := Lib.hid hB
  rw [← hB] at Hb0 Hp0 ⊢
  clear hn hB
  go_loopg [6, 7, 8, 15] n (fun g s6 s7 s8 s15 wr => ∃ (i b : Nat), i ≤ n ∧ g = n - i ∧ s15 = .int .i64 (i : Int) ∧ s6 = .map (some b) ∧ Hid (PolV wr (.map (some b)) (topS n i) (2 ^ topS n i) (topI n ys i)) ∧ Hid (Below B w wr))
  case atStart => exact ⟨0, B, Nat.zero_le _, rfl, rfl, rfl, Hp0, Hb0⟩
  case round =>
    obtain ⟨i, b, hi, rfl, rfl, rfl, hp, hb⟩ := hrel
    obtain ⟨wx, rfl⟩ : ∃ x : World, x = wr := ⟨_, rfl⟩
    by_cases hin : i < n
    · have hini : (i : Int) < (n : Int) := by omega
      have hbnd : (n : Int) - 1 - (i : Int) = ((n - 1 - i : Nat) : Int) := by omega
      have Hp := Lib.hid hp.out
      have Hb := Lib.hid hb.out
      clear hp hb
      go_wp2_with fail
      go_loopg [6, 8, 22] (n - 1 - i) (fun g s6 s8 s22 wr => ∃ (j b : Nat), j ≤ n - 1 - i ∧ g = n - 1 - i - j ∧ s22 = .int .i64 (j : Int) ∧ s6 = .map (some b) ∧ Hid (PolV wr (.map (some b)) (topS n i + j) (2 ^ (topS n i + j)) (topJ i ys j (topI n ys i))) ∧ Hid (Below B w wr))
      case atStart => exact ⟨0, b, Nat.zero_le _, rfl, rfl, rfl, Hp, Hb⟩
      case round =>
        obtain ⟨j, b2, hj, rfl, rfl, rfl, hp, hb⟩ := hrel
        obtain ⟨wy, rfl⟩ : ∃ x : World, x = wr := ⟨_, rfl⟩
        by_cases hjn : j < n - 1 - i
        · have hjni : (j : Int) < (n : Int) - 1 - (i : Int) := by omega
          have hjn2 : (j : Int) < (n : Int) := by omega
          obtain ⟨bY, oy, rfl, hcy⟩ := Hyc.out (by omega)
          have c0 := hcy j (by omega)
          unfold iv at c0
          obtain ⟨y, hyj⟩ : ∃ y, y = ys.getD j 0 := ⟨_, rfl⟩
          have hyb := hb0.out y (by rw [hyj]; exact getD_mem (by omega))
          rw [← hyj] at c0
          have c1 : wy.cell? ⟨bY, oy + j, none⟩ = some (.int .i64 y) := cell_below (HB.out ▸ hb.out) c0
          have Hyj := Lib.hid hyj
          have hs := topS_le hn5 hin (j := j + 1) (by omega)
          have hpow : 2 ^ (topS n i + j) ≤ 1024 := Nat.le_trans (Nat.pow_le_pow_right (by omega) (show topS n i + j ≤ 10 by omega)) (by decide)
          have hp2 := PolV.below (w' := wy.drew) hp.out (Below.refl _ _).drew
          obtain ⟨N, hN⟩ : ∃ N, N = 2 ^ (topS n i + j) := ⟨_, rfl⟩
          obtain ⟨d0, hd0⟩ : ∃ d0, d0 = topS n i + j := ⟨_, rfl⟩
          obtain ⟨T, hT⟩ : ∃ T, T = topJ i ys j (topI n ys i) := ⟨_, rfl⟩
          have hd10 : d0 + 1 ≤ 10 := by omega
          rw [← hN, ← hT, ← hd0] at hp2
          rw [← hN] at hpow
          have Hp2 := Lib.hid hp2
          have HN := Lib.hid hN
          have HT := Lib.hid hT
          have Hd0 := Lib.hid hd0
          have Hb2 := Lib.hid (show Below B w wy.drew from hb.out.drew)
          have hwn : IntKind.i64.wrap (-y) = -y := k64 (by omega) (by omega)
          have c1' : wy.drew.cell? ⟨bY, oy + j, none⟩ = some (.int .i64 y) := c1
          clear hcy c0 hyj hs hp2 hN hT hd0 hp hb
          go_wp2_with fail
          go_region_held3 (fun w' => w'.cell? ⟨bY, oy + j, none⟩ = some (.int .i64 y))
            (first | with_reducible assumption | (trace_state; fail))
            (first
              | (go_at_call 79; refine (raised_any _ i d0 N T _ Hp2.out (by omega) (by omega) (by omega)).mono ?_; rintro e w1 ⟨u1, rfl, hp1, hb1⟩; have Hp1 := Lib.hid hp1; obtain ⟨b1, D1, rfl, _, _⟩ := hp1; have c2 := cell_below hb1 c1'; have Hb1 := Lib.hid hb1)
              | (go_at_call 78; refine (plus_any _ _ (-y) (d0 + 1) N N (rsP i T) T _ Hp1.out ((Hp2.out.below Hb1.out).mono (Nat.le_succ _) (Nat.le_refl _)) (by omega) (by omega)).mono ?_; rintro e w2 ⟨u2, rfl, hp3, hb3⟩; have Hp3 := Lib.hid hp3; obtain ⟨b3, D3, rfl, _, _⟩ := hp3; have c3 := cell_below hb3 c2; have Hb3 := Lib.hid hb3))
          clear hwn
          go_wp2_with fail
          go_roundg (n - 1 - i - (j + 1))
          case measure => omega
          case rel =>
            refine ⟨j + 1, b3, by omega, rfl, by go_num, rfl, Lib.hid ?_, Lib.hid ((Hb2.out.trans (Hb1.out.mono (Nat.le_trans (Nat.le_of_eq HB.out) Hb2.out.size))).trans (Hb3.out.mono (Nat.le_trans (Nat.le_of_eq HB.out) (Nat.le_trans Hb2.out.size Hb1.out.size))))⟩
            have := Hp3.out
            rw [Hd0.out, HN.out, HT.out, Hyj.out] at this
            rw [topJ, ← Nat.add_assoc, Nat.pow_succ, Nat.mul_two]
            exact this
        · have hjni : ¬ (j : Int) < (n : Int) - 1 - (i : Int) := by omega
          obtain rfl : j = n - 1 - i := by omega
          go_wp2_with fail
          go_roundg (n - (i + 1))
          case measure => omega
          case rel => exact ⟨i + 1, b2, by omega, rfl, by go_num, rfl, hp, hb⟩
    · have hini : ¬ (i : Int) < (n : Int) := by omega
      have hie : n = i := by omega
      subst hie
      have h0 := topS_end hn5
      have hpow : 2 ^ topS n n ≤ 1024 := Nat.le_trans (Nat.pow_le_pow_right (by omega) h0) (by decide)
      have hp1 := hp.out.mono h0 hpow
      have Hp1 := Lib.hid hp1
      have Hb1 := Lib.hid hb.out
      have Hok := Lib.hid hok
      have Hw2 : Hid (Ints w (.slice pw n cw) xs) := by rw [Hn.out]; exact Hw
      clear hp hb hp1 hpow h0 hok
      go_wp2_with fail
      refine (lowered_any 10 (topI n ys n) (by omega) (by omega) 10 xs _ _ 1024 _ Hok.out h5 Hp1.out (by decide) (Hw2.out.below (HB.out ▸ Hb1.out))).mono ?_
      rintro e w1 ⟨u1, rfl, hp2, hb2⟩
      have Hp2 := Lib.hid hp2
      have Hb2 := Lib.hid (Hb1.out.trans (hb2.mono (Nat.le_trans (Nat.le_of_eq HB.out) Hb1.out.size)))
      obtain ⟨b1, D1, rfl, _, _⟩ := hp2
      clear hb2
      go_wp2_with fail
      go_ret
      refine ⟨_, rfl, ?_, HB.out ▸ Hb2.out⟩
      rw [dblP, ← Hn.out]
      exact Hp2.out

end Go.Proofs.YtnpghgpejnlebaaGreat
