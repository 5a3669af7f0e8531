/-
  The identity, as the reference makes it.
  Lengths and words of permutations. Plain.
  l1Rank, RankAt: how many of the first r numbers of a permutation are less than c.
  Slices of cells of a diagram: two numbers an element.
  The diagram of a permutation and its essential cells, on both sides.
  The essential cells of a permutation, on both sides.
  Ranks at the essential cells tell of all corners. Plain.
-/
import Derived.Test.YtklpaannmdbmiaaJ3
import Derived.Test.YtklpaannmdbmiaaJ4
import Derived.Test.YtklpaannmdbmiaaJ2
import Derived.Lib.OwnKind
namespace Go.Proofs.Ytklpaannmdbmiaa
set_option linter.all false
open Go.RowKit

/-- the identity of n -/
def idL (n : Nat) : List Int := (List.range n).map fun (i : Nat) => (i : Int)
theorem idL_length (n : Nat) : (idL n).length = n := by simp [idL]
theorem idL_getD {n i : Nat} (h : i < n) : (idL n).getD i 0 = i := by simp [idL, List.getD_eq_getElem?_getD, h]
theorem idL_succ (n : Nat) : idL (n + 1) = idL n ++ [(n : Int)] := by simp [idL, List.range_succ]
theorem idL_ok {n : Nat} (h1 : 1 ≤ n) (h7 : n ≤ 7) : permOk (idL n) = true := by
  have : n = 1 ∨ n = 2 ∨ n = 3 ∨ n = 4 ∨ n = 5 ∨ n = 6 ∨ n = 7 := by omega
  rcases this with rfl | rfl | rfl | rfl | rfl | rfl | rfl <;> decide

set_option maxRecDepth 100000 in
set_option maxHeartbeats 2000000 in
theorem specIdentity_any (n : Nat) (w : World) (h1 : 1 ≤ n) (h7 : n ≤ 7) :
    Calls Try.prog 42 #[.int .i64 (n : Int)] w (RetI w (idL n)) := by
  have hin : Hid ((1 : Int) ≤ n ∧ (n : Int) ≤ 7) := ⟨by omega, by omega⟩
  go_enter Try.func42, Try.ntmps42
  go_wp2_with fail
  refine (l1In_yes _ _ _ _ hin.out).mono ?_
  rintro e w' ⟨rfl, rfl⟩
  go_wp2_with fail
  go_loopg [3, 4] n (fun g s3 s4 wr => ∃ i : Nat, i ≤ n ∧ g = n - i ∧ s4 = .int .i64 i ∧ Hid (Below w.heap.size w wr) ∧ Hid (OwnI 3 wr w.heap.size wr.heap.size s3 (idL i)))
  case atStart =>
    refine ⟨0, Nat.zero_le _, rfl, rfl, below_alloc w _, ?_⟩
    exact OwnF.ints ((OwnF.made0 w 3 (iv [])).mono (Nat.le_refl _) (by simp))
  case round =>
    obtain ⟨i, hi, rfl, rfl, hb, ho⟩ := hrel
    have hsr := hb.out.size
    by_cases hlt : i < n
    · have hlt2 : (i : Int) < (n : Int) := by omega
      obtain ⟨p5, k5, rfl, _, _⟩ := ho.out.shape
      have hofn := ho.out.fn
      rw [idL_length] at hofn ⊢
      have Ho := Lib.hid hofn
      have Hb := Lib.hid hb.out
      have Hb1 := Lib.hid (show i + 1 ≤ maxLen by unfold maxLen; omega)
      have Hb2 := Lib.hid (show (i + 1) * 8 ≤ 140737488355328 by omega)
      clear ho hofn hb
      go_wp2_with (at_builtin; go_must (refine wpList_append_F rfl (.tmp 14) (.tmp 16) 24 rfl 3 (.int .i64 0) 8 Try.underlying24 info_int rfl w.heap.size wr.heap.size _ i (iv (idL i)) rfl (Ho.out.below (below_alloc wr _)) (by rw [size_alloc]; omega) (by rw [size_alloc]; omega) _ 1 _ rfl (rd_one _ _ _ rfl) (fun j _ => rfl) Hb1.out Hb2.out ?_; intro v2 w2 ho2 hg2))
      go_roundg (n - (i + 1))
      case measure => omega
      case rel =>
        have hbx : Below w.heap.size wr w2 := ((below_alloc wr _).mono (by omega)).trans (grownBy_below hg2 Ho.out.blocks (Nat.le_refl _) (by rw [size_alloc]; omega))
        refine ⟨i + 1, by omega, rfl, by go_num, Hb.out.trans hbx, ?_⟩
        rw [idL_succ]
        exact OwnI.snoc1 (by rw [idL_length]; exact ho2)
    · obtain rfl : i = n := by omega
      have hlt2 : ¬ (i : Int) < (i : Int) := by omega
      have Ho := Lib.hid ho.out
      have Hb := Lib.hid hb.out
      clear ho hb
      go_wp2_with fail
      go_ret
      exact ⟨_, rfl, Ho.out, Hb.out⟩


end Go.Proofs.Ytklpaannmdbmiaa

namespace Go.Proofs.Ytklpaannmdbmiaa
set_option linter.all false
open Go.RowKit

def lnK (xs : List Int) : Nat → Nat
  | 0 => 0
  | k + 1 => lnK xs k + cdA xs k
/-- how many inversions -/
def lnN (xs : List Int) : Nat := lnK xs xs.length
theorem lnK_le (xs : List Int) (h : xs.length ≤ 10) : ∀ k, k ≤ xs.length → lnK xs k ≤ k * 10
  | 0, _ => Nat.le_refl _
  | k + 1, hk => by
    have a := lnK_le xs h k (by omega)
    have b := cdK_le xs k (xs.length - (k + 1))
    rw [lnK]
    unfold cdA
    omega
/-- the first place where a list goes down -/
def fdN (b : List Int) : Nat := ((List.range (b.length - 1)).find? fun k => !ascB k b).getD 0
def frN (w : List Int) : Nat := fdN (invL w)
/-- the values k and k + 1 exchanged -/
def frV (w : List Int) (k : Nat) : List Int := (w.set ((invL w).getD k 0).toNat ((k + 1 : Nat) : Int)).set ((invL w).getD (k + 1) 0).toNat (k : Int)
def frS (w : List Int) : List Int := frV w (frN w)
def firL : Nat → List Int → List Nat
  | 0, _ => []
  | f + 1, w => frN w :: firL f (frS w)
/-- the word of the reference -/
def fstL (w : List Int) : List Nat := firL (lnN w) w
/-- a word played -/
def play (r : List Nat) (u : List Int) : List Int := r.foldl (fun u k => sw k u) u

def firB (w : List Int) : Bool := decide (lnN w = 0) || (decide (frN w + 1 < w.length) && !ascB (frN w) (invL w) && (List.range (frN w)).all (fun j => ascB j (invL w)) && permOk (frS w) && decide (lnN (frS w) + 1 = lnN w) && (invL w).all (fun x => decide (0 ≤ x ∧ x < (w.length : Int))))
def wrdB (w : List Int) : Bool := decide (play (fstL w) (idL w.length) = w) && (fstL w).all (fun k => decide (k + 1 < w.length)) && decide ((fstL w).length ≤ 10) && decide (lnN w + upN w = w.length * (w.length - 1) / 2)
set_option maxRecDepth 100000 in
theorem fir_all : all5 firB = true := by decide +kernel
set_option maxRecDepth 100000 in
theorem wrd_all : all5 wrdB = true := by decide +kernel
structure FirAt (w : List Int) : Prop where
  lt : frN w + 1 < w.length
  down : ascB (frN w) (invL w) = false
  up : ∀ j, j < frN w → ascB j (invL w) = true
  ok : permOk (frS w) = true
  less : lnN (frS w) + 1 = lnN w
  rng : ∀ j, j < w.length → ∃ m : Nat, (invL w).getD j 0 = (m : Int) ∧ m < w.length
theorem fir_at {n : Nat} {w : List Int} (h : P5 n w) (h0 : lnN w ≠ 0) : FirAt w := by
  have := all5_at fir_all h.ok (by have := h.len; have := h.le; omega)
  unfold firB at this
  rw [decide_eq_false h0, Bool.false_or] at this
  simp only [Bool.and_eq_true, decide_eq_true_eq, List.all_eq_true, List.mem_range] at this
  obtain ⟨⟨⟨⟨⟨h1, h2⟩, h3⟩, h4⟩, h5⟩, h6⟩ := this
  refine ⟨h1, by simpa using h2, h3, h4, h5, fun j hj => ?_⟩
  have := h6 _ (getD_mem (show j < (invL w).length by rw [invL_length]; exact hj))
  exact ⟨((invL w).getD j 0).toNat, by omega, by omega⟩
theorem wrd_at {n : Nat} {w : List Int} (h : P5 n w) : play (fstL w) (idL n) = w ∧ (∀ k ∈ fstL w, k + 1 < n) ∧ (fstL w).length ≤ 10 ∧ lnN w + upN w = n * (n - 1) / 2 := by
  have := all5_at wrd_all h.ok (by have := h.len; have := h.le; omega)
  unfold wrdB at this
  rw [h.len] at this
  simp only [Bool.and_eq_true, decide_eq_true_eq, List.all_eq_true] at this
  exact ⟨this.1.1.1, this.1.1.2, this.1.2, this.2⟩
theorem P5.mk' {w : List Int} (h : permOk w = true) (h5 : w.length ≤ 5) : P5 w.length w := ⟨h, rfl, h5⟩
theorem P5.rng {n : Nat} {w : List Int} (h : P5 n w) {j : Nat} (hj : j < n) : ∃ m : Nat, w.getD j 0 = (m : Int) ∧ m < n := by
  have hp := h.ok
  simp only [permOk, decide_eq_true_eq] at hp
  have := hp.2.2.1 _ (getD_mem (show j < w.length by rw [h.len]; exact hj))
  rw [h.len] at this
  exact ⟨(w.getD j 0).toNat, by omega, by omega⟩
theorem P5.id {n : Nat} (h1 : 1 ≤ n) (h5 : n ≤ 5) : P5 n (idL n) := ⟨idL_ok h1 (by omega), idL_length n, h5⟩

end Go.Proofs.Ytklpaannmdbmiaa

namespace Go.Proofs.Ytklpaannmdbmiaa
set_option linter.all false
open Go.RowKit

theorem cell_kept {w w' : World} {a : Addr} {v : Value} (hb : Below w.heap.size w w') (h : w.cell? a = some v) : w'.cell? a = some v := by
  rw [hb.cell (World.block_lt_of_cell? _ _ h)]; exact h
def rkL (xs : List Int) (c : Int) : Nat → Nat
  | 0 => 0
  | r + 1 => rkL xs c r + if xs.getD r 0 < c then 1 else 0
theorem rkL_le (xs : List Int) (c : Int) : ∀ r, rkL xs c r ≤ r
  | 0 => Nat.le_refl _
  | r + 1 => by have := rkL_le xs c r; unfold rkL; split <;> omega

set_option maxRecDepth 100000 in
set_option maxHeartbeats 2000000 in
theorem implRankAt_any (v : Value) (xs : List Int) (r c : Nat) (w : World) (h : Ints w v xs) (hp : permOk xs = true) (hr : r ≤ xs.length) (hc : c ≤ xs.length) (hx : xs.length ≤ 7) (h0 : 0 < xs.length) :
    Calls Try.prog 22 #[v, .int .i64 (r : Int), .int .i64 (c : Int)] w fun e w' => e = .returned (.int .i64 (rkL xs c r : Nat)) ∧ Below w.heap.size w w' := by
  have H := Lib.hid h
  have Hp := Lib.hid hp
  obtain ⟨p, cap, rfl, ⟨hx1, hx2⟩, hxc⟩ := h
  unfold maxLen at hx2
  obtain ⟨b, off, rfl, hcx⟩ := hxc h0
  have Hcx := Lib.hid hcx
  have t1 : decide ((r : Int) < 0) = false := decide_eq_false (by omega)
  have t2 : decide (xs.length < r) = false := decide_eq_false (by omega)
  have t3 : decide ((c : Int) < 0) = false := decide_eq_false (by omega)
  have t4 : decide (xs.length < c) = false := decide_eq_false (by omega)
  have hrk : (r : Int) ≤ (cap : Int) := by omega
  clear hxc hp hcx
  go_enter Try.func22, Try.ntmps22
  go_wp2_with fail
  refine (implIsPerm_b _ xs _ Hp.out _ H.out).mono ?_
  rintro e w1 ⟨rfl, hb⟩
  have Hb := Lib.hid hb
  clear hb
  go_wp2_with fail
  clear t1 t2 t3 t4
  go_loopg [7, 9, 37] r (fun g s7 s9 s37 wr => ∃ (k n : Nat), k ≤ r ∧ g = r - k ∧ s37 = .int .i64 k ∧ s7 = .int .i64 n ∧ n ≤ k ∧ Hid (n = rkL xs c k) ∧ Qt w1 wr)
  case atStart => exact ⟨0, 0, Nat.zero_le _, rfl, rfl, rfl, Nat.le_refl _, rfl, Qt.refl _⟩
  case round =>
    obtain ⟨k, n, hk, rfl, rfl, rfl, hnk, hn, hq⟩ := hrel
    by_cases hlt : k < r
    · have c1 := hq.cell (cell_kept Hb.out (Hcx.out k (by omega)))
      unfold iv at c1
      have hs : rkL xs c (k + 1) = rkL xs c k + if xs.getD k 0 < c then 1 else 0 := rfl
      generalize xs.getD k 0 = y at c1 hs
      by_cases hy : y < c
      · rw [if_pos hy] at hs
        have Hs := Lib.hid hs
        clear hs
        go_wp2_with fail
        go_roundg (r - (k + 1))
        case measure => omega
        case rel => exact ⟨k + 1, n + 1, by omega, rfl, by go_num, by go_num, by omega, by unfold Hid; rw [Hs.out, ← hn.out], hq⟩
      · rw [if_neg hy] at hs
        have hy2 : decide (y < (c : Int)) = false := decide_eq_false hy
        have Hs := Lib.hid hs
        clear hs
        go_wp2_with fail
        go_roundg (r - (k + 1))
        case measure => omega
        case rel => exact ⟨k + 1, n, by omega, rfl, by go_num, rfl, by omega, by unfold Hid; rw [Hs.out, ← hn.out, Nat.add_zero], hq⟩
    · obtain rfl : k = r := by omega
      go_wp2_with fail
      go_ret
      rw [← hn.out]
      exact ⟨rfl, Hb.out.trans (hq.below _)⟩

end Go.Proofs.Ytklpaannmdbmiaa

namespace Go.Proofs.Ytklpaannmdbmiaa
set_option linter.all false
open Go.RowKit

/-- cells, as values -/
def cellVs (cs : List (Int × Int)) : List Value := cs.flatMap fun c => [.int .i64 c.1, .int .i64 c.2]
theorem cellVs_snoc (cs : List (Int × Int)) (c : Int × Int) : cellVs (cs ++ [c]) = cellVs cs ++ [.int .i64 c.1, .int .i64 c.2] := by simp [cellVs]
theorem cellVs_length (cs : List (Int × Int)) : (cellVs cs).length = cs.length * 2 := by
  induction cs with
  | nil => rfl
  | cons c cs ih => simp only [cellVs, List.flatMap_cons, List.length_append, List.length_cons, List.length_nil] at ih ⊢; omega
theorem cellVs_get (cs : List (Int × Int)) : ∀ i, i < cs.length → (cellVs cs)[i * 2]? = some (.int .i64 (cs.getD i (0, 0)).1) ∧ (cellVs cs)[i * 2 + 1]? = some (.int .i64 (cs.getD i (0, 0)).2) := by
  induction cs with
  | nil => intro i hi; exact absurd hi (Nat.not_lt_zero _)
  | cons c cs ih =>
    intro i hi
    have e : cellVs (c :: cs) = .int .i64 c.1 :: .int .i64 c.2 :: cellVs cs := by simp [cellVs]
    rw [e]
    cases i with
    | zero => simp
    | succ i =>
      have := ih i (by simpa using hi)
      rw [show (i + 1) * 2 = i * 2 + 1 + 1 by omega]
      simpa using this
/-- cells that can be read -/
def RdC (w : World) (v : Value) (cs : List (Int × Int)) : Prop :=
  ∃ p cap, v = .slice p cs.length cap ∧ (cs.length ≤ cap ∧ cap ≤ maxLen) ∧ (0 < cs.length → ∃ b, p = some ⟨b, 0, none⟩ ∧ ∀ i, i < cs.length → w.cell? ⟨b, i * 2, none⟩ = some (.int .i64 (cs.getD i (0, 0)).1) ∧ w.cell? ⟨b, i * 2 + 1, none⟩ = some (.int .i64 (cs.getD i (0, 0)).2))
theorem RdC.of_cells {w w' : World} {v : Value} {cs : List (Int × Int)} (h : RdC w v cs) (hc : ∀ a x, w.cell? a = some x → w'.cell? a = some x) : RdC w' v cs := by
  obtain ⟨p, cap, rfl, hm, h⟩ := h
  refine ⟨p, cap, rfl, hm, fun h0 => ?_⟩
  obtain ⟨b, hp, hx⟩ := h h0
  exact ⟨b, hp, fun i hi => ⟨hc _ _ (hx i hi).1, hc _ _ (hx i hi).2⟩⟩
theorem RdC.below {w w' : World} {v : Value} {cs : List (Int × Int)} (h : RdC w v cs) (hb : Below w.heap.size w w') : RdC w' v cs :=
  h.of_cells fun a x hx => by rw [hb.cell (World.block_lt_of_cell? w a hx)]; exact hx
theorem RdC.qt {w w' : World} {v : Value} {cs : List (Int × Int)} (h : RdC w v cs) (q : Qt w w') : RdC w' v cs := h.of_cells fun _ _ hx => q.cell hx
/-- cells that a call made -/
def OwnC (w : World) (lo hi : Nat) (v : Value) (cs : List (Int × Int)) : Prop := Own w lo hi 48 2 v cs.length (cellVs cs)
theorem OwnC.below {w w' : World} {lo hi : Nat} {v : Value} {cs : List (Int × Int)} (h : OwnC w lo hi v cs) (hb : Below w.heap.size w w') : OwnC w' lo hi v cs := Own.below h hb
theorem OwnC.mono {w : World} {lo hi lo' hi' : Nat} {v : Value} {cs : List (Int × Int)} (h : OwnC w lo hi v cs) (h1 : lo' ≤ lo) (h2 : hi ≤ hi') : OwnC w lo' hi' v cs := Own.mono h h1 h2
theorem OwnC.rd {w : World} {lo hi : Nat} {v : Value} {cs : List (Int × Int)} (h : OwnC w lo hi v cs) : RdC w v cs := by
  obtain ⟨h, _⟩ := h
  have h' := h
  rcases h'.2 with ⟨rfl, e⟩ | ⟨g, cap, cur, rfl, _, _, hm, hm2, _⟩
  · exact ⟨none, 0, by rw [e], ⟨by omega, Nat.zero_le _⟩, fun h0 => absurd h0 (by omega)⟩
  · refine ⟨_, cap, rfl, ⟨hm, hm2⟩, fun _ => ⟨g, rfl, fun i hi => ?_⟩⟩
    obtain ⟨g1, g2⟩ := cellVs_get cs i hi
    have hadd : ∀ j, (⟨g, 0, none⟩ : Addr).add j = ⟨g, 0 + j, none⟩ := fun j => by unfold Addr.add; split <;> simp_all
    have c1 := h.cells (g := g) rfl _ _ g1
    have c2 := h.cells (g := g) rfl _ _ g2
    rw [hadd, Nat.zero_add] at c1 c2
    exact ⟨c1, c2⟩
theorem OwnC.shape {w : World} {lo hi : Nat} {v : Value} {cs : List (Int × Int)} (h : OwnC w lo hi v cs) : ∃ p cap, v = .slice p cs.length cap ∧ cs.length ≤ cap ∧ cap ≤ maxLen := by
  obtain ⟨p, cap, e, hm, _⟩ := h.rd
  exact ⟨p, cap, e, hm.1, hm.2⟩
theorem OwnC.blocks {w : World} {lo hi : Nat} {v : Value} {cs : List (Int × Int)} (h : OwnC w lo hi v cs) : ∀ k, v.ownBlock = some k → lo ≤ k ∧ k < hi := fun k hk => ⟨(Own.block h hk).1, (Own.block h hk).2.1⟩
theorem OwnC.made0 (w : World) : OwnC (w.alloc (.cells #[] 48)) w.heap.size (w.heap.size + 1) (.slice (some ⟨w.heap.size, 0, none⟩) 0 0) [] :=
  ⟨⟨rfl, .inr ⟨w.heap.size, 0, #[], rfl, Nat.le_refl _, heap_alloc_top _ _, Nat.le_refl _, Nat.zero_le _, rfl, rfl⟩⟩, fun k hk => by simp [Value.ownBlock] at hk; omega⟩
theorem info_cell : (Try.prog.info? 48).map (fun i => (i.zero, i.size, i.bytes)) = some (some (.agg #[.int .i64 0, .int .i64 0]), 2, 16) := by kernel_rfl
theorem info_parts2 {P : Program} {t : TypeId} {z : Value} {size bytes : Nat} (h : (P.info? t).map (fun i => (i.zero, i.size, i.bytes)) = some (some z, size, bytes)) : ∃ i, P.info? t = some i ∧ i.zero = some z ∧ i.size = size ∧ i.bytes = bytes := by
  cases hi : P.info? t with
  | none => rw [hi] at h; cases h
  | some i =>
    rw [hi] at h
    simp only [Option.map_some, Option.some.injEq, Prod.mk.injEq] at h
    exact ⟨i, rfl, h.1, h.2.1, h.2.2⟩
/-- a cell put behind cells of the call's own -/
theorem wpList_append_C {w : World} {ops : Array Oper} {rest : List Oper} {o : Oper} {a : Act} {Q : Exit → Act → World → Prop} (hgd : o.guard = none) (s x : Operand)
    (ho : o.op = .call { callee := .builtin .append, args := #[s, x], argTypes := #[45, 45] })
    (lo hi : Nat) (v : Value) (cs : List (Int × Int)) (hs : a.eval s = v) (hown : OwnC w lo hi v cs) (hlo : lo ≤ w.heap.size)
    (b k : Nat) (c : Int × Int) (hx : a.eval x = .slice (some ⟨b, 0, none⟩) 1 k) (h0 : w.cell? ⟨b, 0, none⟩ = some (.int .i64 c.1)) (h1 : w.cell? ⟨b, 1, none⟩ = some (.int .i64 c.2)) (hn : cs.length + 1 ≤ 100000)
    (h : ∀ v' w', OwnC w' lo w'.heap.size v' (cs ++ [c]) → w.grownBy w' v.ownBlock → wpList Try.prog ops Q rest (a.put o.dst v') w') :
    wpList Try.prog ops Q (o :: rest) a w := by
  obtain ⟨i, hi, hz, hsz, hby⟩ := info_parts2 info_cell
  refine wpList_append_own w hgd s x _ ho lo 48 i _ 2 16 Try.underlying45 hi hz hsz hby rfl (by omega) v cs.length (cellVs cs) hs hown.1 ⟨b, 0, none⟩ 1 k [.int .i64 c.1, .int .i64 c.2] hx rfl
    (fun j u hj => ?_) (fun u hu => ?_) (by unfold maxLen; omega) (by omega) hlo fun v' w' h2 h3 _ => h v' w' ?_ h3
  · have hadd : (⟨b, 0, none⟩ : Addr).add j = ⟨b, 0 + j, none⟩ := by unfold Addr.add; split <;> simp_all
    rw [hadd, Nat.zero_add]
    match j, hj with
    | 0, hj => simp at hj; subst hj; exact h0
    | 1, hj => simp at hj; subst hj; exact h1
    | j + 2, hj => simp at hj
  · simp only [List.mem_cons, List.not_mem_nil, or_false] at hu
    rcases hu with rfl | rfl <;> rfl
  · have := Own.of_row h2
    unfold OwnC
    rw [cellVs_snoc, List.length_append]
    exact this

end Go.Proofs.Ytklpaannmdbmiaa

namespace Go.Proofs.Ytklpaannmdbmiaa
set_option linter.all false
open Go.RowKit

set_option maxRecDepth 100000 in
set_option maxHeartbeats 2000000 in
theorem indexC_any (v : Value) (cs : List (Int × Int)) (r d : Int) (w : World) (h : RdC w v cs) :
    Calls Try.prog 51 #[v, .agg #[.int .i64 r, .int .i64 d]] w fun e w' => ∃ x : Int, e = .returned (.int .i64 x) ∧ (0 ≤ x ↔ (r, d) ∈ cs) ∧ -1 ≤ x ∧ Below w.heap.size w w' := by
  obtain ⟨p, cap, rfl, ⟨hx1, hx2⟩, hxc⟩ := h
  unfold maxLen at hx2
  have Hxc := Lib.hid hxc
  clear hxc
  have z0 := heap_alloc_top w (.cells #[.int .i64 r, .int .i64 d] 48)
  go_enter Try.func51, Try.ntmps51
  go_wp2_with fail
  go_loopg [8] cs.length (fun g s5 wr => ∃ k : Nat, k ≤ cs.length ∧ g = cs.length - k ∧ s5 = .int .i64 k ∧ Qt (w.alloc (.cells #[.int .i64 r, .int .i64 d] 48)) wr ∧ Hid ((r, d) ∉ cs.take k))
  case atStart => exact ⟨0, Nat.zero_le _, rfl, rfl, Qt.refl _, by simp [Hid]⟩
  case round =>
    obtain ⟨k, hk, rfl, rfl, hq, hno⟩ := hrel
    by_cases hlt : k < cs.length
    · obtain ⟨b, rfl, hc⟩ := Hxc.out (by omega)
      have c1 := hq.cell (show (w.alloc _).cell? _ = some _ by rw [(below_alloc w _).cell (World.block_lt_of_cell? w _ (hc k hlt).1)]; exact (hc k hlt).1)
      have c2 := hq.cell (show (w.alloc _).cell? _ = some _ by rw [(below_alloc w _).cell (World.block_lt_of_cell? w _ (hc k hlt).2)]; exact (hc k hlt).2)
      have x1 : wr.cell? ⟨w.heap.size, 0, none⟩ = some (.int .i64 r) := hq.cell (cell_of_blk z0 (j := 0) rfl)
      have x2 : wr.cell? ⟨w.heap.size, 1, none⟩ = some (.int .i64 d) := hq.cell (cell_of_blk z0 (j := 1) rfl)
      obtain ⟨e, he⟩ : ∃ e, e = cs.getD k (0, 0) := ⟨_, rfl⟩
      rw [← he] at c1 c2
      have ht : cs.take (k + 1) = cs.take k ++ [e] := by rw [he, List.take_add_one, List.getElem?_eq_getElem hlt, List.getD_eq_getElem?_getD, List.getElem?_eq_getElem hlt]; rfl
      obtain ⟨X, Y⟩ := e
      dsimp only at c1 c2
      have Ht := Lib.hid ht
      clear hc he ht z0
      have hmem : (X, Y) ∈ cs := List.mem_of_mem_take (i := k + 1) (by rw [Ht.out]; simp)
      have Hmem := Lib.hid hmem
      clear hmem
      by_cases e1 : r = X
      · subst e1
        by_cases e2 : d = Y
        · subst e2
          go_wp2_with fail
          go_quiet (fail)
          go_wp2_with fail
          go_ret
          exact ⟨k, rfl, ⟨fun _ => Hmem.out, fun _ => by omega⟩, by omega, (below_alloc _ _).trans ((hq.drewN _).below _)⟩
        · have e3 : (d == Y) = false := by simp [e2]
          go_wp2_with fail
          go_quiet (fail)
          go_wp2_with fail
          go_roundg (cs.length - (k + 1))
          case measure => omega
          case rel =>
            refine ⟨k + 1, by omega, rfl, by go_num, hq.drewN _, ?_⟩
            show _ ∉ cs.take (k + 1)
            rw [Ht.out, List.mem_append]
            rintro (h | h)
            · exact hno h
            · simp at h; exact e2 h
      · have e3 : (r == X) = false := by simp [e1]
        go_wp2_with fail
        go_quiet (fail)
        go_wp2_with fail
        go_roundg (cs.length - (k + 1))
        case measure => omega
        case rel =>
          refine ⟨k + 1, by omega, rfl, by go_num, hq.drewN _, ?_⟩
          show _ ∉ cs.take (k + 1)
          rw [Ht.out, List.mem_append]
          rintro (h | h)
          · exact hno h
          · simp at h; exact e1 h.1
    · have hk' : k = cs.length := by omega
      subst hk'
      rw [List.take_of_length_le (Nat.le_refl _)] at hno
      go_wp2_with fail
      go_ret
      exact ⟨-1, rfl, ⟨fun h => absurd h (by decide), fun h => absurd h hno.out⟩, by omega, (below_alloc _ _).trans (hq.below _)⟩
set_option maxRecDepth 100000 in
theorem containsC_any (v : Value) (cs : List (Int × Int)) (c : Int × Int) (w : World) (h : RdC w v cs) :
    Calls Try.prog 36 #[v, .agg #[.int .i64 c.1, .int .i64 c.2]] w fun e w' => e = .returned (.bool (decide (c ∈ cs))) ∧ Below w.heap.size w w' := by
  obtain ⟨r, d⟩ := c
  dsimp only
  have Hh := Lib.hid h
  obtain ⟨p, cap, rfl, _⟩ := h
  go_enter Try.func36, Try.ntmps36
  go_wp2_with fail
  refine (indexC_any _ cs r d _ (Hh.out.below (below_alloc w _))).mono ?_
  rintro e w1 ⟨x, rfl, hr, hr1, hq⟩
  have Hr := Lib.hid hr
  clear hr
  go_wp2_with fail
  go_ret
  exact ⟨ret_bool (by rw [decide_eq_decide]; exact Hr.out), (below_alloc _ _).trans (hq.mono (by simp))⟩

/-- row i of the diagram, its first k columns -/
def dgIn (xs : List Int) (i k : Nat) : List (Int × Int) := (List.range k).flatMap fun j => if (i : Int) < invK xs xs.length j then [((i : Int), (j : Int))] else []
/-- the first i rows of the diagram -/
def dgUp (xs : List Int) (i : Nat) : List (Int × Int) := (List.range i).flatMap fun a => dgIn xs a (xs.getD a 0).toNat
def diagL (xs : List Int) : List (Int × Int) := dgUp xs xs.length
theorem dgIn_succ (xs : List Int) (i k : Nat) : dgIn xs i (k + 1) = dgIn xs i k ++ if (i : Int) < invK xs xs.length k then [((i : Int), (k : Int))] else [] := flatMap_snoc _ _
theorem dgUp_succ (xs : List Int) (i : Nat) : dgUp xs (i + 1) = dgUp xs i ++ dgIn xs i (xs.getD i 0).toNat := flatMap_snoc _ _
theorem dgIn_len (xs : List Int) (i k : Nat) : (dgIn xs i k).length ≤ k := by
  have := flatMap_len (fun j => if (i : Int) < invK xs xs.length j then [((i : Int), (j : Int))] else []) 1 (fun j => by split <;> simp) k
  rw [Nat.mul_one] at this
  exact this
theorem dgUp_len {xs : List Int} (hr : ∀ x ∈ xs, 0 ≤ x ∧ x < (xs.length : Int)) (hl : xs.length ≤ 7) : ∀ i, i ≤ xs.length → (dgUp xs i).length ≤ i * 7
  | 0, _ => by simp [dgUp]
  | i + 1, hi => by
    have ih := dgUp_len hr hl i (by omega)
    have h1 := dgIn_len xs i (xs.getD i 0).toNat
    have h2 := hr _ (getD_mem (show i < xs.length by omega))
    rw [dgUp_succ, List.length_append]
    omega
/-- what is owned with elements of two kinds lies in two blocks -/
theorem Own.apart {w : World} {lo hi lo' hi' : Nat} {T T' : TypeId} {s s' : Nat} {v v' : Value} {n n' : Nat} {xs ys : List Value} (h : Own w lo hi T s v n xs) (h' : Own w lo' hi' T' s' v' n' ys) (hT : T ≠ T') : ∀ k, v.ownBlock = some k → v'.ownBlock ≠ some k := by
  intro k h1 h2
  obtain ⟨c, fz, e⟩ := Lib.ownsRow_kind h.1 k h1
  obtain ⟨c', fz', e'⟩ := Lib.ownsRow_kind h'.1 k h2
  rw [e] at e'
  injection e' with e'
  injection e' with _ e' _
  exact hT e'
theorem Own.grown {w w' : World} {lo hi : Nat} {T : TypeId} {s n : Nat} {v u : Value} {xs : List Value} (h : Own w lo hi T s v n xs) (hg : w.grownBy w' u.ownBlock) (hne : ∀ k, v.ownBlock = some k → u.ownBlock ≠ some k) : Own w' lo hi T s v n xs :=
  ⟨ownsRow_of_block h.1 fun k hk => hg.block k (Own.block h hk).2.2 fun e => hne k hk e.symm, h.2⟩

theorem dg_step {w2 wr w' : World} {lo lo2 hi2 : Nat} {o : Obj} {s vb : Value} {cs : List (Int × Int)} {L : List Int} (hlo : lo ≤ wr.heap.size) (hoc : OwnC wr lo wr.heap.size s cs) (hob : OwnI 3 wr lo2 hi2 vb L) (hbw : Below lo w2 wr)
    (hg : (wr.alloc o).grownBy w' s.ownBlock) : Below lo w2 w' ∧ OwnI 3 w' lo2 hi2 vb L :=
  ⟨hbw.trans (((below_alloc wr o).mono hlo).trans (grownBy_below hg hoc.blocks (Nat.le_refl _) (by rw [size_alloc]; omega))),
    Own.grown (hob.below (below_alloc wr o)) hg (Own.apart (hob.below (below_alloc wr o)) (hoc.below (below_alloc wr o)) (by decide))⟩
theorem dgIn_yes {xs : List Int} {i k : Nat} (h : (i : Int) < invK xs xs.length k) : dgIn xs i (k + 1) = dgIn xs i k ++ [((i : Int), (k : Int))] := by rw [dgIn_succ, if_pos h]
theorem dgIn_no {xs : List Int} {i k : Nat} (h : ¬ (i : Int) < invK xs xs.length k) : dgIn xs i (k + 1) = dgIn xs i k := by rw [dgIn_succ, if_neg h, List.append_nil]

/-- a call returned these cells, in new memory, and changed nothing that was there -/
def RetC (w : World) (cs : List (Int × Int)) (e : Ending) (w' : World) : Prop := ∃ u, e = .returned u ∧ OwnC w' w.heap.size w'.heap.size u cs ∧ Below w.heap.size w w'

set_option maxRecDepth 100000 in
set_option maxHeartbeats 4000000 in
theorem implDiagram_any (v : Value) (xs : List Int) (w : World) (h : Ints w v xs) (hp : permOk xs = true) :
    Calls Try.prog 35 #[v] w (RetC w (diagL xs)) := by
  have Hh := Lib.hid h
  obtain ⟨q, cap, rfl, ⟨hx1, hx⟩, hxc⟩ := h
  obtain ⟨hl1, hl7, hr, _⟩ := of_decide_eq_true hp
  have Hp := Lib.hid hp
  have Hr := Lib.hid hr
  obtain ⟨b, off, rfl, hc⟩ := hxc (by omega)
  have Hc := Lib.hid hc
  have Hlen := Lib.hid (fun i hi => dgUp_len hr hl7 i hi)
  unfold maxLen at hx
  clear hr hxc hp hc
  go_enter Try.func35, Try.ntmps35
  go_wp2_with fail
  have Hz0 := Lib.hid (OwnC.made0 w)
  refine (implIsPerm_any _ xs _ (Hh.out.below (below_alloc w _))).mono ?_
  rintro e w1 ⟨rfl, hq⟩
  rw [Hp.out]
  have Hm1 := Lib.hid (Hz0.out.below hq)
  have hs1 := hq.size
  rw [size_alloc] at hs1
  have Hb1 := Lib.hid ((below_alloc w _).trans (hq.mono (by rw [size_alloc]; omega)))
  clear hq
  go_wp2_with fail
  refine (implInverse_any _ xs _ (Hh.out.below Hb1.out) Hp.out).mono ?_
  rintro e w2 ⟨u, rfl, hob, hb2⟩
  obtain ⟨pb, kb, rfl, _, _⟩ := hob.shape
  rw [invL_length] at hob ⊢
  have Hob := Lib.hid (hob.mono hs1 (Nat.le_refl _))
  have Hm0 := Lib.hid (Hm1.out.below hb2)
  have hs2 := hb2.size
  have Hb2 : Hid (Below w.heap.size w w2) := Lib.hid (Hb1.out.trans (hb2.mono (by omega)))
  clear hob hb2
  go_wp2_with fail
  go_loopg [3, 17] xs.length (fun g s3 s5 wr => ∃ i : Nat, i ≤ xs.length ∧ g = xs.length - i ∧ s5 = .int .i64 i ∧ Hid (Below w.heap.size w2 wr) ∧ Hid (OwnC wr w.heap.size wr.heap.size s3 (dgUp xs i)) ∧ Hid (OwnI 3 wr (w.heap.size + 1) w2.heap.size (.slice pb xs.length kb) (invL xs)))
  case atStart =>
    refine ⟨0, Nat.zero_le _, rfl, rfl, Below.refl _ _, Hm0.out.mono (Nat.le_refl _) (by omega), ?_⟩
    exact Hob.out
  case round =>
    obtain ⟨i, hi, rfl, rfl, hbw, hoc, hob⟩ := hrel
    obtain ⟨wo, rfl⟩ : ∃ x : World, x = wr := ⟨_, rfl⟩
    by_cases hlt : i < xs.length
    · have hx0 := Hr.out _ (getD_mem hlt)
      obtain ⟨m, hm⟩ := Int.eq_ofNat_of_zero_le hx0.1
      have hml : m < xs.length := by omega
      have i1 : (i : Int) < (xs.length : Int) := by omega
      have Hm := Lib.hid hm
      have Hw := Lib.hid (fun W (hW : Below w.heap.size w W) => show W.cell? ⟨b, off + i, none⟩ = some (.int .i64 (m : Int)) by rw [hW.cell (p := ⟨b, off + i, none⟩) (World.block_lt_of_cell? _ _ (Hc.out i hlt)), Hc.out i hlt]; simp only [iv, hm])
      have Hwo := Lib.hid (Hb2.out.trans hbw.out)
      clear hx0 hm
      obtain ⟨p3, k3, rfl, _, _⟩ := hoc.out.shape
      have Hoc := Lib.hid hoc.out
      have Hob2 := Lib.hid hob.out
      have Hbw := Lib.hid hbw.out
      clear hoc hob hbw
      have cx0 := Hw.out wo Hwo.out
      go_wp2_with fail
      clear cx0
      go_loopg [3, 23] m (fun g s3 s6 wr => ∃ j : Nat, j ≤ m ∧ g = m - j ∧ s6 = .int .i64 j ∧ Hid (Below w.heap.size w2 wr) ∧ Hid (OwnC wr w.heap.size wr.heap.size s3 (dgUp xs i ++ dgIn xs i j)) ∧ Hid (OwnI 3 wr (w.heap.size + 1) w2.heap.size (.slice pb xs.length kb) (invL xs)))
      case atStart =>
        refine ⟨0, Nat.zero_le _, rfl, rfl, Hbw.out, ?_, Hob2.out⟩
        have e : dgUp xs i ++ dgIn xs i 0 = dgUp xs i := by simp [dgIn]
        rw [e]; exact Hoc.out
      case round =>
        obtain ⟨j, hj, rfl, rfl, hbw, hoc, hob⟩ := hrel
        have cx := Hw.out wr (Hb2.out.trans hbw.out)
        by_cases hjl : j < m
        · have j1 : (j : Int) < (m : Int) := by omega
          have hb := hob.out.fn
          rw [invL_length] at hb
          obtain ⟨gb, rfl, _, _, _⟩ := hb.at_ (by omega)
          have cb := hb.cell (j := j) (by omega)
          rw [iv, invL_getD (by omega)] at cb
          obtain ⟨X, hX⟩ : ∃ X, X = invK xs xs.length j := ⟨_, rfl⟩
          rw [← hX] at cb
          have HX := Lib.hid hX
          obtain ⟨p4, k4, rfl, _, _⟩ := hoc.out.shape
          obtain ⟨cs, hcs⟩ : ∃ cs, cs = dgUp xs i ++ dgIn xs i j := ⟨_, rfl⟩
          rw [← hcs] at hoc ⊢
          have hcl : cs.length + 1 ≤ 100000 := by
            have a1 := Hlen.out i hi
            have a2 := dgIn_len xs i j
            rw [hcs, List.length_append]; omega
          have Hcs := Lib.hid hcs
          have Hcl := Lib.hid hcl
          have Hoc2 := Lib.hid hoc.out
          have Hob3 := Lib.hid hob.out
          have Hbw2 := Lib.hid hbw.out
          have hsr := hbw.out.size
          have k1 : (j : Int) < (xs.length : Int) := by omega
          clear hb hX hcs hcl hoc hob hbw
          by_cases hg : (i : Int) < X
          · go_wp2_with (at_builtin; go_must (refine wpList_append_C rfl (.tmp 32) (.tmp 36) rfl w.heap.size wr.heap.size _ cs rfl (Hoc2.out.below (below_alloc wr _)) (by rw [size_alloc]; omega) wr.heap.size 1 ((i : Int), (j : Int)) rfl (cell_of_blk (heap_alloc_top wr _) rfl) (cell_of_blk (heap_alloc_top wr _) rfl) Hcl.out ?_; intro v' w' ho' hg'))
            go_roundg (m - (j + 1))
            case measure => omega
            case rel =>
              obtain ⟨t1, t2⟩ := dg_step (by omega) Hoc2.out Hob3.out Hbw2.out hg'
              refine ⟨j + 1, by omega, rfl, by go_num, t1, ?_, t2⟩
              rw [dgIn_yes (by rw [← HX.out]; exact hg), ← List.append_assoc, ← Hcs.out]
              exact ho'
          · go_wp2_with fail
            go_roundg (m - (j + 1))
            case measure => omega
            case rel =>
              refine ⟨j + 1, by omega, rfl, by go_num, Hbw2.out, ?_, Hob3.out⟩
              rw [dgIn_no (by rw [← HX.out]; omega), ← Hcs.out]
              exact Hoc2.out
        · obtain rfl : j = m := by omega
          have j1 : ¬ (j : Int) < (j : Int) := by omega
          have Hoc2 := Lib.hid hoc.out
          have Hob3 := Lib.hid hob.out
          have Hbw2 := Lib.hid hbw.out
          clear hoc hob hbw
          go_wp2_with fail
          go_roundg (xs.length - (i + 1))
          case measure => omega
          case rel =>
            refine ⟨i + 1, by omega, rfl, by go_num, Hbw2.out, ?_, Hob3.out⟩
            rw [dgUp_succ, Hm.out]
            exact Hoc2.out
    · obtain rfl : i = xs.length := by omega
      have i1 : ¬ (xs.length : Int) < (xs.length : Int) := by omega
      have Hoc2 := Lib.hid hoc.out
      have Hbw2 := Lib.hid hbw.out
      clear hoc hob hbw
      go_wp2_with fail
      go_ret
      exact ⟨_, rfl, Hoc2.out, Hb2.out.trans Hbw2.out⟩

end Go.Proofs.Ytklpaannmdbmiaa

namespace Go.Proofs.Ytklpaannmdbmiaa
set_option linter.all false
open Go.RowKit

/-- neither the cell below nor the cell to the right is there -/
def esP (cs : List (Int × Int)) (c : Int × Int) : Bool := decide ((c.1 + 1, c.2) ∉ cs ∧ (c.1, c.2 + 1) ∉ cs)
def essL (xs : List Int) : List (Int × Int) := (diagL xs).filter (esP (diagL xs))
theorem blk2 {w : World} {b : Nat} {x0 x1 : Value} {T : TypeId} (h : w.heap[b]? = some (.cells #[x0, x1] T (0, 0))) :
    w.cell? ⟨b, 0, none⟩ = some x0 ∧ w.cell? ⟨b, 1, none⟩ = some x1 ∧ (∀ j, w.frozen? ⟨b, j, none⟩ = false) ∧ b < w.heap.size :=
  ⟨cell_of_blk h rfl, cell_of_blk h rfl, free_of_blk h, (Array.getElem?_eq_some_iff.1 h).1⟩
theorem mem_dgIn {xs : List Int} {i k : Nat} {c : Int × Int} (h : c ∈ dgIn xs i k) : ∃ j : Nat, j < k ∧ c = ((i : Int), (j : Int)) := by
  unfold dgIn at h
  obtain ⟨j, hj, h⟩ := List.mem_flatMap.1 h
  refine ⟨j, by simpa using hj, ?_⟩
  split at h
  · simpa using h
  · simp at h
theorem diag_rng {xs : List Int} (hp : permOk xs = true) : ∀ c ∈ diagL xs, 0 ≤ c.1 ∧ c.1 < 7 ∧ 0 ≤ c.2 ∧ c.2 < 7 := fun c hc => by
  obtain ⟨hl1, hl7, hr, _⟩ := of_decide_eq_true hp
  unfold diagL dgUp at hc
  obtain ⟨i, hi, h⟩ := List.mem_flatMap.1 hc
  have hi : i < xs.length := by simpa using hi
  obtain ⟨j, hj, rfl⟩ := mem_dgIn h
  have := hr _ (getD_mem hi)
  dsimp only
  omega
theorem diag_len {xs : List Int} (hp : permOk xs = true) : (diagL xs).length ≤ 49 := by
  obtain ⟨hl1, hl7, hr, _⟩ := of_decide_eq_true hp
  have := dgUp_len hr hl7 xs.length (Nat.le_refl _)
  unfold diagL
  omega

set_option maxRecDepth 100000 in
set_option maxHeartbeats 4000000 in
theorem implEssential_any (v : Value) (xs : List Int) (w : World) (h : Ints w v xs) (hp : permOk xs = true) :
    Calls Try.prog 23 #[v] w (RetC w (essL xs)) := by
  have Hh := Lib.hid h
  have Hp := Lib.hid hp
  obtain ⟨q, cap, rfl, _, _⟩ := h
  have hrg := diag_rng hp
  have hdl := diag_len hp
  obtain ⟨cs, hcs⟩ : ∃ cs, cs = diagL xs := ⟨_, rfl⟩
  rw [← hcs] at hrg hdl
  have He := Lib.hid (show essL xs = cs.filter (esP cs) by rw [essL, hcs])
  have Hrg := Lib.hid hrg
  have Hcs := Lib.hid hcs
  clear hp hcs hrg
  go_enter Try.func23, Try.ntmps23
  go_wp2_with fail
  refine (implDiagram_any _ xs _ Hh.out Hp.out).mono ?_
  rintro e w1 ⟨u, rfl, hol, hb1⟩
  rw [← Hcs.out] at hol
  obtain ⟨pl, kl, rfl, _, _⟩ := hol.shape
  have Hol := Lib.hid hol.rd
  have Hb1 := Lib.hid hb1
  have Hm0 := Lib.hid (OwnC.made0 w1)
  clear hol hb1
  go_wp2_with fail
  go_loopg [4, 12] cs.length (fun g s4 s12 wr => ∃ k : Nat, k ≤ cs.length ∧ g = cs.length - k ∧ s12 = .int .i64 k ∧ Hid (Below w1.heap.size w1 wr) ∧ Hid (OwnC wr w1.heap.size wr.heap.size s4 ((cs.take k).filter (esP cs))))
  case atStart =>
    refine ⟨0, Nat.zero_le _, rfl, rfl, (below_alloc w1 _), ?_⟩
    exact Hm0.out.mono (Nat.le_refl _) (by rw [size_alloc]; exact Nat.le_refl _)
  case round =>
    obtain ⟨k, hk, rfl, rfl, hbw, hoc⟩ := hrel
    have hsr := hbw.out.size
    by_cases hlt : k < cs.length
    · have hlt2 : (k : Int) < (cs.length : Int) := by omega
      obtain ⟨_, _, e, ⟨hx1, hx2⟩, hxc⟩ := Hol.out
      injection e with e1 _ e3
      subst e1 e3
      obtain ⟨b, rfl, hc⟩ := hxc (by omega)
      have Hl := Lib.hid (Hol.out.below hbw.out)
      have c1 : wr.cell? ⟨b, k * 2, none⟩ = some (.int .i64 (cs.getD k (0, 0)).1) := by rw [hbw.out.cell (World.block_lt_of_cell? _ _ (hc k hlt).1)]; exact (hc k hlt).1
      have c2 : wr.cell? ⟨b, k * 2 + 1, none⟩ = some (.int .i64 (cs.getD k (0, 0)).2) := by rw [hbw.out.cell (World.block_lt_of_cell? _ _ (hc k hlt).2)]; exact (hc k hlt).2
      obtain ⟨e, he⟩ : ∃ e, e = cs.getD k (0, 0) := ⟨_, rfl⟩
      rw [← he] at c1 c2
      have ht : cs.take (k + 1) = cs.take k ++ [e] := by rw [he, List.take_add_one, List.getElem?_eq_getElem hlt, List.getD_eq_getElem?_getD, List.getElem?_eq_getElem hlt]; rfl
      obtain ⟨X, Y⟩ := e
      dsimp only at c1 c2
      obtain ⟨g1, g2, g3, g4⟩ := Hrg.out (X, Y) (List.mem_of_mem_take (i := k + 1) (by rw [ht]; simp))
      dsimp only at g1 g2 g3 g4
      have Ht := Lib.hid ht
      have Hoc := Lib.hid hoc.out
      have Hbw := Lib.hid hbw.out
      obtain ⟨p4, k4, rfl, _, _⟩ := hoc.out.shape
      obtain ⟨ds, hds⟩ : ∃ ds, ds = (cs.take k).filter (esP cs) := ⟨_, rfl⟩
      rw [← hds] at Hoc ⊢
      have hdl2 : ds.length + 1 ≤ 100000 := by
        have a1 : ds.length ≤ (cs.take k).length := by rw [hds]; exact List.length_filter_le _ _
        rw [List.length_take] at a1; omega
      have Hds := Lib.hid hds
      have Hdl2 := Lib.hid hdl2
      have z0 := Lib.hid (heap_alloc_top wr (.cells #[.int .i64 X, .int .i64 Y] 48))
      have Hba := Lib.hid (below_alloc wr (.cells #[.int .i64 X, .int .i64 Y] 48))
      have hsa : (wr.alloc (.cells #[.int .i64 X, .int .i64 Y] 48)).heap.size = wr.heap.size + 1 := size_alloc _ _
      clear hc he ht hoc hbw hds hxc hx1 hx2 hdl2
      go_wp2_with fail
      generalize wr.alloc (.cells #[.int .i64 X, .int .i64 Y] 48) = wa at *
      refine (containsC_any _ cs (X + 1, Y) _ (Hl.out.below Hba.out)).mono ?_
      rintro e w3 ⟨rfl, hb3⟩
      have Z3 := Lib.hid (blk_later z0.out hb3)
      have Hb3 := Lib.hid (Hba.out.trans (hb3.mono (by omega)))
      have hs3 := hb3.size
      clear hb3 z0
      obtain ⟨d0, d1, df, dz⟩ := blk2 Z3.out
      by_cases m1 : (X + 1, Y) ∈ cs
      · have hno : esP cs (X, Y) = false := by simp [esP, m1]
        have Hno := Lib.hid hno
        have m1' : decide ((X + 1, Y) ∈ cs) = true := by simp [m1]
        rw [m1']
        clear m1 m1' hno
        go_wp2_with fail
        go_roundg (cs.length - (k + 1))
        case measure => omega
        case rel =>
          refine ⟨k + 1, by omega, rfl, by go_num, Hbw.out.trans (Hb3.out.mono (by omega)), ?_⟩
          rw [Ht.out, List.filter_append, ← Hds.out]
          simp only [List.filter_cons, List.filter_nil, Hno.out, Bool.false_eq_true, if_false, List.append_nil]
          exact (Hoc.out.below Hb3.out).mono (Nat.le_refl _) (by omega)
      · have m1' : decide ((X + 1, Y) ∈ cs) = false := by simp [m1]
        rw [m1']
        have M1 := Lib.hid m1
        clear m1 m1'
        go_wp2_with fail
        refine (containsC_any _ cs (X, Y + 1) _ (Hl.out.below Hb3.out)).mono ?_
        rintro e w4 ⟨rfl, hb4⟩
        have Z4 := Lib.hid (blk_later Z3.out hb4)
        have Hb4 := Lib.hid (Hb3.out.trans (hb4.mono (by omega)))
        have hs4 := hb4.size
        clear hb4 Z3 d0 d1 df dz
        obtain ⟨d0, d1, df, dz⟩ := blk2 Z4.out
        by_cases m2 : (X, Y + 1) ∈ cs
        · have hno : esP cs (X, Y) = false := by simp [esP, m2]
          have Hno := Lib.hid hno
          have m2' : decide ((X, Y + 1) ∈ cs) = true := by simp [m2]
          rw [m2']
          clear m2 m2' hno
          go_wp2_with fail
          go_roundg (cs.length - (k + 1))
          case measure => omega
          case rel =>
            refine ⟨k + 1, by omega, rfl, by go_num, Hbw.out.trans (Hb4.out.mono (by omega)), ?_⟩
            rw [Ht.out, List.filter_append, ← Hds.out]
            simp only [List.filter_cons, List.filter_nil, Hno.out, Bool.false_eq_true, if_false, List.append_nil]
            exact (Hoc.out.below Hb4.out).mono (Nat.le_refl _) (by omega)
        · have hyes : esP cs (X, Y) = true := by simp [esP, m2, M1.out]
          have Hyes := Lib.hid hyes
          have m2' : decide ((X, Y + 1) ∈ cs) = false := by simp [m2]
          rw [m2']
          clear m2 m2' hyes
          go_wp2_with (at_builtin; go_must (refine wpList_append_C rfl (.tmp 36) (.tmp 38) rfl w1.heap.size wr.heap.size _ ds rfl ((Hoc.out.below Hb4.out).below (below_alloc w4 _)) (by rw [size_alloc]; omega) w4.heap.size 1 (X, Y) rfl (cell_of_blk (heap_alloc_top w4 _) rfl) (cell_of_blk (heap_alloc_top w4 _) rfl) Hdl2.out ?_; intro v' w' ho' hg'))
          go_roundg (cs.length - (k + 1))
          case measure => omega
          case rel =>
            refine ⟨k + 1, by omega, rfl, by go_num, (Hbw.out.trans (Hb4.out.mono (by omega))).trans (((below_alloc w4 _).mono (by omega)).trans (grownBy_below hg' Hoc.out.blocks (Nat.le_refl _) (by rw [size_alloc]; omega))), ?_⟩
            rw [Ht.out, List.filter_append, ← Hds.out]
            simp only [List.filter_cons, List.filter_nil, Hyes.out, if_true]
            exact ho'
    · obtain rfl : k = cs.length := by omega
      have i1 : ¬ (cs.length : Int) < (cs.length : Int) := by omega
      rw [List.take_of_length_le (Nat.le_refl _)] at hoc
      have Hoc2 := Lib.hid hoc.out
      have Hbw2 := Lib.hid hbw.out
      clear hoc hbw
      go_wp2_with fail
      go_ret
      exact ⟨_, rfl, by rw [He.out]; exact Hoc2.out.mono Hb1.out.size (Nat.le_refl _), Hb1.out.trans (Hbw2.out.mono Hb1.out.size)⟩

end Go.Proofs.Ytklpaannmdbmiaa

namespace Go.Proofs.Ytklpaannmdbmiaa
set_option linter.all false
open Go.RowKit

theorem mem_dgIn2 {xs : List Int} {i k : Nat} {c : Int × Int} : c ∈ dgIn xs i k ↔ ∃ j : Nat, j < k ∧ (i : Int) < invK xs xs.length j ∧ c = ((i : Int), (j : Int)) := by
  unfold dgIn
  rw [List.mem_flatMap]
  constructor
  · rintro ⟨j, hj, hc⟩
    rw [List.mem_range] at hj
    split at hc
    · rename_i h
      rw [List.mem_singleton] at hc
      exact ⟨j, hj, h, hc⟩
    · cases hc
  · rintro ⟨j, hj, h, rfl⟩
    exact ⟨j, List.mem_range.2 hj, by rw [if_pos h]; simp⟩
theorem mem_diag {xs : List Int} {i j : Nat} : ((i : Int), (j : Int)) ∈ diagL xs ↔ i < xs.length ∧ j < (xs.getD i 0).toNat ∧ (i : Int) < invK xs xs.length j := by
  unfold diagL dgUp
  rw [List.mem_flatMap]
  constructor
  · rintro ⟨a, ha, hc⟩
    rw [List.mem_range] at ha
    obtain ⟨b, hb, h, e⟩ := mem_dgIn2.1 hc
    injection e with e1 e2
    have e1 := Int.ofNat.inj e1
    have e2 := Int.ofNat.inj e2
    subst e1 e2
    exact ⟨ha, hb, h⟩
  · rintro ⟨h1, h2, h3⟩
    exact ⟨i, List.mem_range.2 h1, mem_dgIn2.2 ⟨j, h2, h3, rfl⟩⟩
/-- a cell of the diagram -/
def DgAt (xs : List Int) (i j : Nat) : Prop := ((i : Int), (j : Int)) ∈ diagL xs
theorem ess_of {xs : List Int} {i j : Nat} (h : DgAt xs i j) (h1 : ¬ DgAt xs (i + 1) j) (h2 : ¬ DgAt xs i (j + 1)) : ((i : Int), (j : Int)) ∈ essL xs := by
  unfold essL
  rw [List.mem_filter]
  refine ⟨h, ?_⟩
  unfold esP
  exact decide_eq_true ⟨h1, h2⟩
def rkcB (xs : List Int) : Bool := (List.range (xs.length + 1)).all fun r => (List.range xs.length).all fun c => decide (rkL xs ((c : Int) + 1) r = rkL xs (c : Int) r + if invK xs xs.length c < (r : Int) then 1 else 0)
set_option maxRecDepth 100000 in
theorem rkc_all : all5 rkcB = true := by decide +kernel
theorem rkc_at {n : Nat} {xs : List Int} (h : P5 n xs) {r c : Nat} (hr : r ≤ n) (hc : c < n) : rkL xs ((c + 1 : Nat) : Int) r = rkL xs (c : Int) r + if invK xs xs.length c < (r : Int) then 1 else 0 := by
  have := all5_at rkc_all h.ok (by have := h.len; have := h.le; omega)
  simp only [rkcB, List.all_eq_true, List.mem_range, decide_eq_true_eq] at this
  rw [Int.natCast_add]
  exact this r (by rw [h.len]; omega) c (by rw [h.len]; exact hc)
/-- numbers that grow by at most one, row by row and column by column -/
structure StepR (n : Nat) (r : Nat → Nat → Nat) : Prop where
  row0 : ∀ b, r 0 b = 0
  col0 : ∀ a, r a 0 = 0
  row : ∀ a b, a < n → b ≤ n → r a b ≤ r (a + 1) b ∧ r (a + 1) b ≤ r a b + 1
  col : ∀ a b, a ≤ n → b < n → r a b ≤ r a (b + 1) ∧ r a (b + 1) ≤ r a b + 1
theorem rk_row (xs : List Int) (i : Nat) (c : Int) : rkL xs c (i + 1) = rkL xs c i + if xs.getD i 0 < c then 1 else 0 := rfl
theorem ess_down {n : Nat} {xs : List Int} {r : Nat → Nat → Nat} (hx : P5 n xs) (hs : StepR n r) (h : ∀ i j : Nat, ((i : Int), (j : Int)) ∈ essL xs → r (i + 1) (j + 1) ≤ rkL xs ((j + 1 : Nat) : Int) (i + 1)) :
    ∀ m i j, n - i + (n - j) ≤ m → DgAt xs i j → r (i + 1) (j + 1) ≤ rkL xs ((j + 1 : Nat) : Int) (i + 1) := by
  intro m
  induction m with
  | zero =>
    intro i j hm hd
    have := (mem_diag.1 hd).1
    rw [hx.len] at this
    omega
  | succ m ih =>
    intro i j hm hd
    have hd' := mem_diag.1 hd
    rw [hx.len] at hd'
    obtain ⟨t, ht, htn⟩ := hx.rng hd'.1
    have hjn : j < n := by rw [ht] at hd'; omega
    by_cases h1 : DgAt xs (i + 1) j
    · have h1' := mem_diag.1 h1
      rw [hx.len] at h1'
      have a := ih (i + 1) j (by omega) h1
      have b := (hs.row (i + 1) (j + 1) h1'.1 (by omega)).1
      rw [rk_row, if_neg (by have := h1'.2.1; omega)] at a
      omega
    · by_cases h2 : DgAt xs i (j + 1)
      · have h2' := mem_diag.1 h2
        rw [hx.len] at h2'
        have hjn2 : j + 1 < n := by rw [ht] at h2'; omega
        have a := ih i (j + 1) (by omega) h2
        have b := (hs.col (i + 1) (j + 1) (by omega) hjn2).1
        have c := rkc_at hx (r := i + 1) (c := j + 1) (by omega) hjn2
        rw [if_neg (by have := h2'.2.2; rw [hx.len]; omega)] at c
        omega
      · exact h i j (ess_of hd h1 h2)
theorem ess_all {n : Nat} {xs : List Int} {r : Nat → Nat → Nat} (hx : P5 n xs) (hs : StepR n r) (h : ∀ i j : Nat, ((i : Int), (j : Int)) ∈ essL xs → r (i + 1) (j + 1) ≤ rkL xs ((j + 1 : Nat) : Int) (i + 1)) :
    ∀ m a b, a + b ≤ m → a ≤ n → b ≤ n → r a b ≤ rkL xs (b : Int) a := by
  intro m
  induction m with
  | zero =>
    intro a b hm _ _
    obtain rfl : a = 0 := by omega
    rw [hs.row0]; omega
  | succ m ih =>
    intro a b hm ha hb
    cases a with
    | zero => rw [hs.row0]; omega
    | succ i =>
      cases b with
      | zero => rw [hs.col0]; omega
      | succ j =>
        obtain ⟨t, ht, htn⟩ := hx.rng (show i < n by omega)
        by_cases h1 : j < t
        · by_cases h2 : (i : Int) < invK xs xs.length j
          · exact ess_down hx hs h _ i j (Nat.le_refl _) (mem_diag.2 ⟨by rw [hx.len]; omega, by rw [ht]; omega, h2⟩)
          · have c := rkc_at hx (r := i + 1) (c := j) (by omega) (by omega)
            rw [if_pos (by omega)] at c
            have a := ih (i + 1) j (by omega) ha (by omega)
            have b := (hs.col (i + 1) j ha (by omega)).2
            omega
        · have a := ih i (j + 1) (by omega) (by omega) hb
          have b := (hs.row i (j + 1) (by omega) hb).2
          rw [rk_row, if_pos (by rw [ht]; omega)]
          omega

end Go.Proofs.Ytklpaannmdbmiaa
