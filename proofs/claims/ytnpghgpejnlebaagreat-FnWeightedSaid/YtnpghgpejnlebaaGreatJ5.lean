/-
  GrassmannianPerm, StringOfShape.
  The shapes in a box: spec.ShapesIn, laws.boxShapes.
  The shapes in a box as the program makes them, their sums, the numbers of spaces.
  Maps keyed by seven numbers: what a key is.
  What a map keyed by seven numbers adds up to, against a list of keys and numbers. Plain.
  A map keyed by seven numbers reads as a list of keys and numbers, up to multiples of 2^64. Plain.
  A map's entry asked for, and looked up again behind that.
-/
import Derived.Test.YtnpghgpejnlebaaGreatJ4
import Derived.Test.YtnpghgpejnlebaaGreatJ3
import Derived.Test.YtnpghgpejnlebaaGreatJ2
import Derived.Test.YtnpghgpejnlebaaGreatChecked
import Derived.WideKeyArr
import Derived.WideKeyEntry
import Derived.Maps.RangeWalk
import Derived.Maps.OwnSet
import Derived.Maps.OwnOps
namespace Go.Proofs.YtnpghgpejnlebaaGreat
set_option linter.all false
open Go.RowKit

/-- the numbers at the first i places -/
def gpA (sh : List Int) (k i : Nat) : List Int := (List.range i).map fun (t : Nat) => (t : Int) + sh.getD (k - 1 - t) 0
def gpB (A : List Int) (n : Nat) : List Int := ((List.range n).filter fun (x : Nat) => decide (¬ (x : Int) ∈ A)).map fun (x : Nat) => (x : Int)
def gpW (sh : List Int) (k n : Nat) : List Int := gpA sh k k ++ gpB (gpA sh k k) n
theorem gpA_length (sh : List Int) (k i : Nat) : (gpA sh k i).length = i := by simp [gpA]
theorem gpA_succ (sh : List Int) (k i : Nat) : gpA sh k (i + 1) = gpA sh k i ++ [(i : Int) + sh.getD (k - 1 - i) 0] := by simp [gpA, List.range_succ]
theorem gpA_getD {sh : List Int} {k i t : Nat} (h : t < i) : (gpA sh k i).getD t 0 = (t : Int) + sh.getD (k - 1 - t) 0 := by simp [gpA, List.getD_eq_getElem?_getD, h]
theorem gpB_len (A : List Int) (n : Nat) : (gpB A n).length ≤ n := by
  unfold gpB
  rw [List.length_map]
  exact Nat.le_trans (List.length_filter_le _ _) (by simp)
theorem gpB_no {A : List Int} {n : Nat} (h : (n : Int) ∈ A) : gpB A (n + 1) = gpB A n := by
  unfold gpB
  rw [List.range_succ, List.filter_append, List.map_append]
  simp [h]
theorem gpB_yes {A : List Int} {n : Nat} (h : ¬ (n : Int) ∈ A) : gpB A (n + 1) = gpB A n ++ [(n : Int)] := by
  unfold gpB
  rw [List.range_succ, List.filter_append, List.map_append]
  simp [h]

set_option maxRecDepth 100000 in
set_option maxHeartbeats 4000000 in
theorem GrassmannianPerm_any (v : Value) (sh : List Int) (k n : Nat) (w : World) (h : Ints w v sh) (hx : bxOk sh k n = true) (hkn : k ≤ n) (hn1 : 1 ≤ n) (hn7 : n ≤ 7) :
    Calls Tryz.prog 23 #[v, .int .i64 (k : Int), .int .i64 (n : Int)] w (RetI w (gpW sh k n)) := by
  have Hh := Lib.hid h
  have Hx := Lib.hid hx
  have Hr := Lib.hid (bx_facts hx hkn)
  obtain ⟨p, cap, rfl, ⟨hx1, hx2⟩, hxc⟩ := h
  unfold maxLen at hx2
  clear hx hxc
  go_enter Tryz.func23, Tryz.ntmps23
  go_wp2_with fail
  refine (IsInBox_any _ sh k n _ Hh.out hkn hn1 hn7).mono ?_
  rintro e w1 ⟨rfl, hq1⟩
  rw [Hx.out]
  have HQ1 := Lib.hid hq1
  have hs1 := hq1.size
  clear hq1
  go_wp2_with fail
  go_loopg [7, 8, 17] k (fun g s7 s8 s17 wr => ∃ i : Nat, i ≤ k ∧ g = k - i ∧ s17 = .int .i64 i ∧ Hid (OwnI 3 wr w.heap.size wr.heap.size s7 (gpA sh k i)) ∧ Hid (Below w.heap.size w wr))
  case atStart =>
    refine ⟨0, Nat.zero_le _, rfl, rfl, ?_, Lib.hid ((HQ1.out.below _).trans ((below_alloc w1 _).mono (by omega)))⟩
    have := (OwnF.ints (xs := []) (OwnF.made0 w1 3 (iv []))).mono (lo' := w.heap.size) (hi' := (w1.alloc (.cells #[] 3)).heap.size) (by omega) (by simp)
    rw [hs1] at this
    exact Lib.hid this
  case round =>
    obtain ⟨i, hi, rfl, rfl, ho, hb⟩ := hrel
    have hsr := hb.out.size
    by_cases hlt : i < k
    · have hlt2 : (i : Int) < (k : Int) := by omega
      obtain ⟨j, hj⟩ : ∃ j, j = k - 1 - i := ⟨_, rfl⟩
      have hji : (k : Int) - 1 - (i : Int) = (j : Int) := by omega
      obtain ⟨s, hs⟩ : ∃ s, s = sh.getD j 0 := ⟨_, rfl⟩
      have hsb := Hr.out j (by omega)
      rw [← hs] at hsb
      have Hs := Lib.hid hs
      have Hj := Lib.hid hj
      have Hji := Lib.hid hji
      have Hn := Lib.hid (show gpA sh k (i + 1) = gpA sh k i ++ [(i : Int) + s] by rw [gpA_succ, hs, hj])
      obtain ⟨q7, k7, e7, _, _⟩ := ho.out.shape
      rw [gpA_length] at e7
      subst e7
      have hofn := ho.out.fn
      rw [gpA_length] at hofn
      have Ho := Lib.hid hofn
      have Hb1 := Lib.hid (show i + 1 ≤ maxLen by unfold maxLen; omega)
      have Hb2 := Lib.hid (show (i + 1) * 8 ≤ 140737488355328 by omega)
      clear hs hj hji ho hofn
      go_wp2_with fail
      rw [Hji.out]
      refine (rowOf_s2 _ sh j s Hs.out (by have := Hj.out; omega) _ (Hh.out.below hb.out)).mono ?_
      rintro e w2 ⟨rfl, hq⟩
      have HQ := Lib.hid hq
      have hsq := hq.size
      clear hq
      go_wp2_with (at_builtin; go_must (refine wpList_append_F rfl (.tmp 20) (.tmp 29) 24 rfl 3 (.int .i64 0) 8 Tryz.underlying24 info_int rfl w.heap.size wr.heap.size _ i (iv (gpA sh k i)) rfl ((Ho.out.below (HQ.out.below _)).below (below_alloc _ _)) (by rw [size_alloc]; omega) (by rw [size_alloc]; omega) _ 1 _ rfl (rd_one _ _ _ HQ.out.size.symm) (fun j _ => rfl) Hb1.out Hb2.out ?_; intro v2 w3 ho2 hg2))
      go_roundg (k - (i + 1))
      case measure => omega
      case rel =>
        have hbx : Below w.heap.size wr w3 := ((HQ.out.below _).trans ((below_alloc w2 _).mono (by omega))).trans (grownBy_below hg2 Ho.out.blocks (Nat.le_refl _) (by rw [size_alloc]; omega))
        refine ⟨i + 1, by omega, rfl, by go_num, ?_, Lib.hid (hb.out.trans hbx)⟩
        rw [Hn.out]
        exact Lib.hid (OwnI.snoc1 (by rw [gpA_length]; exact ho2))
    · obtain rfl : i = k := by omega
      have hlt2 : ¬ (i : Int) < (i : Int) := by omega
      obtain ⟨A, hA⟩ : ∃ A, A = gpA sh i i := ⟨_, rfl⟩
      have hAl : A.length = i := by rw [hA, gpA_length]
      rw [← hA] at ho
      have HA := Lib.hid hA
      have HAl := Lib.hid hAl
      have Ho0 := Lib.hid ho.out
      obtain ⟨q7, k7, e7, _, _⟩ := ho.out.shape
      rw [hAl] at e7
      subst e7
      have Hb0 := Lib.hid hb.out
      clear hA hAl ho hb
      go_wp2_with fail
      obtain ⟨wa, rfl⟩ : ∃ x : World, x = wr := ⟨_, rfl⟩
      go_loopg [7, 9, 33] n (fun g s7 s9 s33 wr => ∃ x : Nat, x ≤ n ∧ g = n - x ∧ s33 = .int .i64 x ∧ Hid (OwnI 3 wr w.heap.size wr.heap.size s7 (A ++ gpB A x)) ∧ Hid (Below w.heap.size w wr))
      case atStart => exact ⟨0, Nat.zero_le _, rfl, rfl, by rw [show A ++ gpB A 0 = A by simp [gpB]]; exact Ho0, Hb0⟩
      case round =>
        obtain ⟨x, hxn, rfl, rfl, ho, hb⟩ := hrel
        have hsr := hb.out.size
        obtain ⟨L, hL⟩ : ∃ L, L = A ++ gpB A x := ⟨_, rfl⟩
        have hLl : L.length ≤ 14 := by rw [hL, List.length_append, HAl.out]; have := gpB_len A x; omega
        have hLi : i ≤ L.length := by rw [hL, List.length_append, HAl.out]; omega
        have hLt : L.take i = A := by rw [hL, List.take_append_of_le_length (by rw [HAl.out]; exact Nat.le_refl _), List.take_of_length_le (by rw [HAl.out]; exact Nat.le_refl _)]
        rw [← hL] at ho
        have HL := Lib.hid hL
        have Ho := Lib.hid ho.out
        have HLt := Lib.hid hLt
        obtain ⟨N, hN⟩ : ∃ N, N = L.length := ⟨_, rfl⟩
        obtain ⟨q8, k8, e8, hc8, hm8⟩ := ho.out.shape
        rw [← hN] at e8 hc8 hLl hLi
        unfold maxLen at hm8
        subst e8
        have hI := ho.out.ints
        rw [hN] at hI
        have HI := Lib.hid (show Ints wr (.slice q8 i k8) A by rw [← HLt.out]; exact ints_takeP hI (by rw [← hN]; exact hLi))
        have hofn := ho.out.fn
        rw [← hN] at hofn
        have Hof := Lib.hid hofn
        have HN := Lib.hid hN
        clear hL hLt ho hI hofn hN
        by_cases hxlt : x < n
        · have hx3 : (x : Int) < (n : Int) := by omega
          have hi3 : (i : Int) ≤ (k8 : Int) := by omega
          go_wp2_with fail
          refine (contains_any _ A x _ HI.out).mono ?_
          rintro e w2 ⟨rfl, hq⟩
          have hsq := hq.size
          by_cases hc : (x : Int) ∈ A
          · rw [decide_eq_true hc]
            have Hn := Lib.hid (show A ++ gpB A (x + 1) = L by rw [gpB_no hc, HL.out])
            have Ho2 := Lib.hid (Ho.out.below (hq.below _))
            have Hb2 := Lib.hid (hb.out.trans (hq.below _))
            clear hc hq
            go_wp2_with fail
            go_roundg (n - (x + 1))
            case measure => omega
            case rel => exact ⟨x + 1, by omega, rfl, by go_num, by rw [Hn.out, hsq]; exact Ho2, Hb2⟩
          · rw [decide_eq_false hc]
            have Hn := Lib.hid (show A ++ gpB A (x + 1) = L ++ [(x : Int)] by rw [gpB_yes hc, ← List.append_assoc, HL.out])
            have HQ := Lib.hid hq
            have Hc1 := Lib.hid (show N + 1 ≤ maxLen by unfold maxLen; omega)
            have Hc2 := Lib.hid (show (N + 1) * 8 ≤ 140737488355328 by omega)
            clear hc hq
            go_wp2_with (at_builtin; go_must (refine wpList_append_F rfl (.tmp 42) (.tmp 44) 24 rfl 3 (.int .i64 0) 8 Tryz.underlying24 info_int rfl w.heap.size wr.heap.size _ N (iv L) rfl ((Hof.out.below (HQ.out.below _)).below (below_alloc _ _)) (by rw [size_alloc]; omega) (by rw [size_alloc]; omega) _ 1 _ rfl (rd_one _ _ _ HQ.out.size.symm) (fun j _ => rfl) Hc1.out Hc2.out ?_; intro v2 w3 ho2 hg2))
            go_roundg (n - (x + 1))
            case measure => omega
            case rel =>
              have hbx : Below w.heap.size wr w3 := ((HQ.out.below _).trans ((below_alloc w2 _).mono (by omega))).trans (grownBy_below hg2 Hof.out.blocks (Nat.le_refl _) (by rw [size_alloc]; omega))
              refine ⟨x + 1, by omega, rfl, by go_num, ?_, Lib.hid (hb.out.trans hbx)⟩
              rw [Hn.out]
              exact Lib.hid (OwnI.snoc1 (by rw [← HN.out]; exact ho2))
        · obtain rfl : x = n := by omega
          have hx3 : ¬ (x : Int) < (x : Int) := by omega
          go_wp2_with fail
          go_ret
          refine ⟨_, rfl, ?_, hb.out⟩
          unfold gpW
          rw [← HA.out, ← HL.out]
          exact Ho.out

end Go.Proofs.YtnpghgpejnlebaaGreat

namespace Go.Proofs.YtnpghgpejnlebaaGreat
set_option linter.all false
open Go.RowKit

/-- the shapes that begin with some parts, with at most so many parts more, none greater than m -/
def shs : Nat → Nat → List Int → List (List Int)
  | 0, _, front => [front]
  | r + 1, m, front => front :: (List.range m).flatMap fun (n : Nat) => shs r (n + 1) (front ++ [((n + 1 : Nat) : Int)])
theorem shs_len : ∀ (r m : Nat) (front : List Int), (shs r m front).length ≤ (m + 1) ^ r
  | 0, m, front => by simp [shs]
  | r + 1, m, front => by
    rw [shs, List.length_cons]
    have key : ∀ k, k ≤ m → ((List.range k).flatMap fun (n : Nat) => shs r (n + 1) (front ++ [((n + 1 : Nat) : Int)])).length ≤ k * (m + 1) ^ r := by
      intro k
      induction k with
      | zero => intro _; simp
      | succ k ih =>
        intro hk
        rw [flatMap_snoc, List.length_append, Nat.succ_mul]
        have a := ih (by omega)
        have b := shs_len r (k + 1) (front ++ [((k + 1 : Nat) : Int)])
        have c : (k + 1 + 1) ^ r ≤ (m + 1) ^ r := Nat.pow_le_pow_left (by omega) r
        omega
    have a := key m (Nat.le_refl m)
    have b : 1 ≤ (m + 1) ^ r := Nat.one_le_pow _ _ (by omega)
    rw [Nat.pow_succ, Nat.mul_add]
    rw [Nat.mul_comm ((m + 1) ^ r) m]
    omega
theorem shs_len' (r m k : Nat) (front : List Int) (hk : k ≤ m) : ((List.range k).flatMap fun (n : Nat) => shs r (n + 1) (front ++ [((n + 1 : Nat) : Int)])).length ≤ k * (m + 1) ^ r := by
  induction k with
  | zero => simp
  | succ k ih =>
    rw [flatMap_snoc, List.length_append, Nat.succ_mul]
    have a := ih (by omega)
    have b := shs_len r (k + 1) (front ++ [((k + 1 : Nat) : Int)])
    have c : (k + 1 + 1) ^ r ≤ (m + 1) ^ r := Nat.pow_le_pow_left (by omega) r
    omega

theorem grown_after {w w1 w' : World} {b : Option Nat} (hb : Below w.heap.size w w1) (hg : w1.grownBy w' b) : w.grownBy w' b :=
  ⟨hg.os.trans hb.os, hg.tape.trans hb.tape, hg.output.trans hb.output, Nat.le_trans hb.size hg.size, fun k hk hne => (hg.block k (Nat.lt_of_lt_of_le hk hb.size) hne).trans (hb.block k hk)⟩
theorem grown_chain {w w1 w' : World} {a b : Option Nat} (h1 : w.grownBy w1 a) (h2 : w1.grownBy w' b) (hab : ∀ k, b = some k → a = some k ∨ w.heap.size ≤ k) : w.grownBy w' a :=
  ⟨h2.os.trans h1.os, h2.tape.trans h1.tape, h2.output.trans h1.output, Nat.le_trans h1.size h2.size, fun k hk hne => (h2.block k (Nat.lt_of_lt_of_le hk h1.size) (fun e => by
    rcases hab k e.symm with h | h
    · exact hne h.symm
    · omega)).trans (h1.block k hk hne)⟩
theorem grown_then {w w1 w' : World} {a : Option Nat} (h1 : w.grownBy w1 a) (hb : Below w1.heap.size w1 w') : w.grownBy w' a :=
  ⟨hb.os.trans h1.os, hb.tape.trans h1.tape, hb.output.trans h1.output, Nat.le_trans h1.size hb.size, fun k hk hne => (hb.block k (Nat.lt_of_lt_of_le hk h1.size)).trans (h1.block k hk hne)⟩
/-- a row keeps what it holds where another slice grew -/
theorem OwnI.grownBy {Ts Ti : TypeId} {w w' : World} {lo mid lo1 hi1 n : Nat} {lv fv : Value} {f : Nat → Value} {xs : List Int} (h : OwnI Ti w lo1 hi1 fv xs) (hg : w.grownBy w' lv.ownBlock) (hl : OwnF w lo mid Ts lv n f) (hT : Ts ≠ Ti) : OwnI Ti w' lo1 hi1 fv xs :=
  ⟨ownsRow_of_block h.1 fun k hk => hg.block k (Own.block h hk).2.2 fun e => own_types hl h hT e.symm hk, h.2⟩

/-- a row of its own is put behind the others, its block told apart outright -/
theorem OwnII.snocD {Ts Ti : TypeId} {w w' : World} {lo hi : Nat} {v v' x : Value} {rows : List (List Int)} {xs : List Int} {f : Nat → Value} (g1 : OwnF w lo hi Ts v rows.length f) (g2 : ∀ i, i < rows.length → OwnI Ti w lo hi (f i) (rows.getD i []))
    (g3 : ∀ i j, i < j → j < rows.length → ∀ k, (f i).ownBlock = some k → (f j).ownBlock ≠ some k) (hx : OwnI Ti w lo hi x xs) (hd : ∀ i, i < rows.length → ∀ k, (f i).ownBlock = some k → x.ownBlock ≠ some k) (hT : Ts ≠ Ti)
    (hg : w.grownBy w' v.ownBlock) (hsz : hi ≤ w'.heap.size)
    (hv : OwnF w' lo w'.heap.size Ts v' (rows.length + 1) (fun j => if j < rows.length then f j else x)) : OwnII Ts Ti w' lo w'.heap.size v' (rows ++ [xs]) := by
  refine ⟨_, by rw [List.length_append]; exact hv, fun i hi => ?_, fun i j hij hj k hk => ?_⟩
  · rw [List.length_append] at hi
    simp only [List.length_singleton] at hi
    by_cases hlt : i < rows.length
    · have e : (rows ++ [xs]).getD i [] = rows.getD i [] := by simp [List.getD_eq_getElem?_getD, List.getElem?_append_left hlt]
      simp only [hlt, if_true]
      rw [e]
      exact ((g2 i hlt).grownBy hg g1 hT).mono (Nat.le_refl _) hsz
    · have e : (rows ++ [xs]).getD i [] = xs := by
        have : i = rows.length := by omega
        subst this
        simp [List.getD_eq_getElem?_getD]
      simp only [hlt, if_false]
      rw [e]
      exact (hx.grownBy hg g1 hT).mono (Nat.le_refl _) hsz
  · rw [List.length_append] at hj
    simp only [List.length_singleton] at hj
    by_cases hlt : j < rows.length
    · simp only [hlt, if_true]
      simp only [show i < rows.length by omega, if_true] at hk
      exact g3 i j hij hlt k hk
    · simp only [hlt, if_false]
      simp only [show i < rows.length by omega, if_true] at hk
      exact hd i (by omega) k hk

/-- what l4Shapes does -/
def L4Q (w : World) (lo : Nat) (lv : Value) (L : List (List Int)) (e : Ending) (w' : World) : Prop :=
  ∃ v', e = .returned v' ∧ OwnII 24 3 w' lo w'.heap.size v' L ∧ w.grownBy w' lv.ownBlock ∧ ∀ b, v'.ownBlock = some b → lv.ownBlock = some b ∨ w.heap.size ≤ b

end Go.Proofs.YtnpghgpejnlebaaGreat

namespace Go.Proofs.YtnpghgpejnlebaaGreat
set_option linter.all false
open Go.RowKit

def ishs : Nat → Nat → List (List Int)
  | 0, _ => [[]]
  | r + 1, m => [] :: (List.range m).flatMap fun (n : Nat) => (ishs r (n + 1)).map fun l => ((n : Int) + 1) :: l
theorem ishs_len : ∀ (r m : Nat), (ishs r m).length ≤ (m + 1) ^ r
  | 0, m => by simp [ishs]
  | r + 1, m => by
    rw [ishs, List.length_cons]
    have a : ∀ k, k ≤ m → ((List.range k).flatMap fun (n : Nat) => (ishs r (n + 1)).map fun l => ((n : Int) + 1) :: l).length ≤ k * (m + 1) ^ r := by
      intro k
      induction k with
      | zero => intro _; simp
      | succ k ih =>
        intro hk
        rw [flatMap_snoc, List.length_append, Nat.succ_mul, List.length_map]
        have a := ih (by omega)
        have b := ishs_len r (k + 1)
        have c : (k + 1 + 1) ^ r ≤ (m + 1) ^ r := Nat.pow_le_pow_left (by omega) r
        omega
    have a := a m (Nat.le_refl m)
    have b : 1 ≤ (m + 1) ^ r := Nat.one_le_pow _ _ (by omega)
    rw [Nat.pow_succ, Nat.mul_add]
    rw [Nat.mul_comm ((m + 1) ^ r) m]
    omega
theorem ishs_len' (r m k : Nat) (hk : k ≤ m) : ((List.range k).flatMap fun (n : Nat) => (ishs r (n + 1)).map fun l => ((n : Int) + 1) :: l).length ≤ k * (m + 1) ^ r := by
  induction k with
  | zero => simp
  | succ k ih =>
    rw [flatMap_snoc, List.length_append, Nat.succ_mul, List.length_map]
    have a := ih (by omega)
    have b := ishs_len r (k + 1)
    have c : (k + 1 + 1) ^ r ≤ (m + 1) ^ r := Nat.pow_le_pow_left (by omega) r
    omega
theorem ishs_short : ∀ (r m : Nat), ∀ l ∈ ishs r m, l.length ≤ r
  | 0, m, l, h => by simp [ishs] at h; simp [h]
  | r + 1, m, l, h => by
    rw [ishs, List.mem_cons] at h
    rcases h with rfl | h
    · simp
    · obtain ⟨n, _, h⟩ := List.mem_flatMap.1 h
      obtain ⟨l', h', rfl⟩ := List.mem_map.1 h
      have := ishs_short r (n + 1) l' h'
      simp; omega
theorem take_snoc_map {α β : Type} (g : α → β) (L : List α) {j : Nat} (h : j < L.length) : (L.take (j + 1)).map g = (L.take j).map g ++ [g L[j]] := by
  rw [List.take_succ, List.getElem?_eq_getElem h, List.map_append]
  rfl

/-- a list with the empty list alone -/
theorem made_nil1 (w : World) : OwnII 24 3 ((w.alloc (.cells #[] 3)).alloc (.cells #[.slice (some ⟨w.heap.size, 0, none⟩) 0 0] 24)) w.heap.size (w.heap.size + 1 + 1) (.slice (some ⟨w.heap.size + 1, 0, none⟩) 1 1) [[]] := by
  refine ⟨fun _ => .slice (some ⟨w.heap.size, 0, none⟩) 0 0, ?_, fun i hi => ?_, fun i j hij hj => ?_⟩
  · have := (OwnF.made1 (w.alloc (.cells #[] 3)) 24 (.slice (some ⟨w.heap.size, 0, none⟩) 0 0)).mono (lo' := w.heap.size) (hi' := w.heap.size + 1 + 1) (by simp) (by simp)
    rw [size_alloc] at this
    exact this
  · obtain rfl : i = 0 := by simpa using hi
    exact ((OwnF.ints (xs := []) (OwnF.made0 w 3 (iv []))).below (below_alloc _ _)).mono (Nat.le_refl _) (by omega)
  · have : j = 0 := by simpa using hj
    omega

set_option maxRecDepth 100000 in
set_option maxHeartbeats 4000000 in
theorem shapesIn_go (r : Nat) : ∀ (R M : Int) (m : Nat) (w : World), R = (r : Int) → M = (m : Int) → m ≤ 100 → r ≤ 50 → (m + 1) ^ r ≤ 1000000 →
    Calls Tryz.prog 27 #[.int .i64 R, .int .i64 M] w (RetII w (ishs r m)) := by
  induction r with
  | zero =>
    intro R M m w hR hM h1 h2 h3
    subst hR
    clear h3
    have HM := Lib.hid (made_nil1 w)
    have HB := Lib.hid (below_alloc2 w (.cells #[] 3) (.cells #[.slice (some ⟨w.heap.size, 0, none⟩) 0 0] 24))
    go_enter Tryz.func27, Tryz.ntmps27
    go_wp2_with fail
    go_loopg [5, 6, 8] 0 (fun g s5 s6 s8 wr => Hid (OwnII 24 3 wr w.heap.size wr.heap.size s5 [[]]) ∧ Hid (Below w.heap.size w wr))
    case atStart => exact ⟨by have := HM.out.mono (hi' := ((w.alloc (.cells #[] 3)).alloc (.cells #[.slice (some ⟨w.heap.size, 0, none⟩) 0 0] 24)).heap.size) (Nat.le_refl _) (by simp); exact Lib.hid this, HB⟩
    case round =>
      obtain ⟨ho, hb⟩ := hrel
      obtain ⟨p5, k5, rfl, _, _⟩ := ho.out.shape
      go_wp2_with fail
      go_ret
      exact ⟨_, rfl, ho.out, hb.out⟩
  | succ r ih =>
    intro R M m w hR hM h1 h2 h3
    subst hM
    obtain ⟨q, hq⟩ : ∃ q, q = (m + 1) ^ r := ⟨_, rfl⟩
    rw [Nat.pow_succ, ← hq, Nat.mul_comm, Nat.succ_mul] at h3
    have hp1 : 1 ≤ q := by rw [hq]; exact Nat.one_le_pow _ _ (by omega)
    have Hq := Lib.hid hq
    have Hmq := Lib.hid h3
    have Ih := Lib.hid ih
    have hR1 : 1 ≤ R := by omega
    have hR2 : R ≤ 100 := by omega
    have HR := Lib.hid hR
    have HM := Lib.hid (made_nil1 w)
    have HB := Lib.hid (below_alloc2 w (.cells #[] 3) (.cells #[.slice (some ⟨w.heap.size, 0, none⟩) 0 0] 24))
    clear hR hq h3 ih
    go_enter Tryz.func27, Tryz.ntmps27
    go_wp2_with fail
    go_loopg [5, 6, 8] m (fun g s5 s6 s8 wr => ∃ t : Nat, t ≤ m ∧ g = m - t ∧ s6 = .int .i64 ((t : Int) + 1) ∧ Hid (OwnII 24 3 wr w.heap.size wr.heap.size s5 ([] :: (List.range t).flatMap fun (n : Nat) => (ishs r (n + 1)).map fun l => ((n : Int) + 1) :: l)) ∧ Hid (Below w.heap.size w wr))
    case atStart => exact ⟨0, Nat.zero_le _, rfl, by go_num, by have := HM.out.mono (hi' := ((w.alloc (.cells #[] 3)).alloc (.cells #[.slice (some ⟨w.heap.size, 0, none⟩) 0 0] 24)).heap.size) (Nat.le_refl _) (by simp); exact Lib.hid this, HB⟩
    case round =>
      obtain ⟨t, ht, rfl, rfl, ho, hb⟩ := hrel
      obtain ⟨wo, rfl⟩ : ∃ x : World, x = wr := ⟨_, rfl⟩
      have hsw := hb.out.size
      obtain ⟨L, hL⟩ : ∃ L, L = [] :: (List.range t).flatMap fun (n : Nat) => (ishs r (n + 1)).map fun l => ((n : Int) + 1) :: l := ⟨_, rfl⟩
      rw [← hL] at ho
      by_cases hlt : t < m
      · have hLn : ([] :: (List.range (t + 1)).flatMap fun (n : Nat) => (ishs r (n + 1)).map fun l => ((n : Int) + 1) :: l) = L ++ (ishs r (t + 1)).map fun l => ((t : Int) + 1) :: l := by
          rw [flatMap_snoc, hL, List.cons_append]
        have hp : (t + 1 + 1) ^ r ≤ q := by rw [Hq.out]; exact Nat.pow_le_pow_left (by omega) r
        have hLl : L.length + q ≤ 1000000 := by
          have a := ishs_len' r m t (by omega)
          rw [← Hq.out] at a
          have c : t * q ≤ (m - 1) * q := Nat.mul_le_mul_right q (by omega)
          have d : m * q = (m - 1) * q + q := by rw [← Nat.succ_mul]; congr 1; omega
          have e := Hmq.out
          rw [hL, List.length_cons]
          omega
        have HLn := Lib.hid hLn
        have HLl := Lib.hid hLl
        have Hp := Lib.hid hp
        have Ho := Lib.hid ho.out
        have Hb := Lib.hid hb.out
        obtain ⟨p3, k3, rfl, _, _⟩ := ho.out.shape
        have ht1 : (t : Int) + 1 ≤ (m : Int) := by omega
        clear hL hLn hLl hp ho hb
        go_wp2_with fail
        refine (Ih.out _ _ (t + 1) _ (by have := HR.out; omega) (by omega) (by omega) (by omega) (by have := Hp.out; have := Hmq.out; omega)).mono ?_
        rintro e w1 ⟨u, rfl, hou, hbu⟩
        obtain ⟨N, hN⟩ : ∃ N, N = ishs r (t + 1) := ⟨_, rfl⟩
        have hNl : N.length ≤ q := by rw [hN]; exact Nat.le_trans (ishs_len r (t + 1)) Hp.out
        have hNs : ∀ l ∈ N, l.length ≤ r := by rw [hN]; exact ishs_short r (t + 1)
        rw [← hN] at hou
        have HN := Lib.hid hN
        have HNl := Lib.hid hNl
        have HNs := Lib.hid hNs
        have Hbu := Lib.hid hbu
        have hsu := hbu.size
        obtain ⟨pu, ku, rfl, hku, hku2⟩ := hou.shape
        unfold maxLen at hku2
        obtain ⟨G, j1, j2, j3⟩ := hou
        have J1 := Lib.hid j1
        have J2 := Lib.hid j2
        have HBo := Lib.hid (Hb.out.trans (hbu.mono hsw))
        have Hw1 := Lib.hid (show ∀ b, (Value.slice p3 L.length k3).ownBlock = some b → b < wo.heap.size ∨ w1.heap.size ≤ b from fun b hb => by
          obtain ⟨F, q1, _⟩ := Ho.out
          exact .inl (q1.blocks b hb).2)
        have Ho1 := Lib.hid ((Ho.out.below hbu).mono (Nat.le_refl _) hsu)
        have hs0 : w.heap.size ≤ w1.heap.size := by omega
        clear hN hNl hNs hbu j1 j2 j3 Hb Ho
        go_wp2_with fail
        go_loopg [5, 8, 25] N.length (fun g s5 s8 s25 wr => ∃ j : Nat, j ≤ N.length ∧ g = N.length - j ∧ s25 = .int .i64 j ∧ Hid (OwnII 24 3 wr w.heap.size wr.heap.size s5 (L ++ (N.take j).map fun l => ((t : Int) + 1) :: l)) ∧ Hid (Below w.heap.size w wr ∧ w1.heap.size ≤ wr.heap.size ∧ ∀ b, s5.ownBlock = some b → b < wo.heap.size ∨ w1.heap.size ≤ b) ∧ Hid (OwnF wr wo.heap.size w1.heap.size 24 (.slice pu N.length ku) N.length G) ∧ Hid (∀ i, i < N.length → OwnI 3 wr wo.heap.size w1.heap.size (G i) (N.getD i [])))
        case atStart => exact ⟨0, Nat.zero_le _, rfl, rfl, by rw [List.take_zero, List.map_nil, List.append_nil]; exact Ho1, Lib.hid ⟨HBo.out, Nat.le_refl _, Hw1.out⟩, J1, J2⟩
        case round =>
          obtain ⟨j, hj, rfl, rfl, ho, hb, hg, hgi⟩ := hrel
          obtain ⟨w2, rfl⟩ : ∃ x : World, x = wr := ⟨_, rfl⟩
          have hs2 := hb.out.2.1
          have hs9 := hb.out.1.size
          obtain ⟨K, hK⟩ : ∃ K, K = L ++ (N.take j).map fun l => ((t : Int) + 1) :: l := ⟨_, rfl⟩
          have hKl : K.length = L.length + j := by rw [hK, List.length_append, List.length_map, List.length_take]; omega
          rw [← hK] at ho
          by_cases hjl : j < N.length
          · have hKn : L ++ (N.take (j + 1)).map (fun l => ((t : Int) + 1) :: l) = K ++ [((t : Int) + 1) :: N.getD j []] := by
              rw [take_snoc_map _ _ hjl, hK, List.append_assoc, List.getD_eq_getElem?_getD, List.getElem?_eq_getElem hjl]
              rfl
            obtain ⟨x, hx⟩ : ∃ x, x = N.getD j [] := ⟨_, rfl⟩
            have hxl : x.length ≤ 50 := by
              have := HNs.out x (by rw [hx, List.getD_eq_getElem?_getD, List.getElem?_eq_getElem hjl]; exact List.getElem_mem hjl)
              omega
            have hrow := hgi.out j hjl
            rw [← hx] at hKn hrow
            obtain ⟨pj, kj, ej, _, _⟩ := hrow.shape
            rw [ej] at hrow
            obtain ⟨g0, hg0, hgl, hgh, hgs⟩ := hg.out.at_ (by omega)
            subst hg0
            have c0 := hg.out.cell hjl
            rw [ej] at c0
            obtain ⟨n, hn⟩ : ∃ n, n = x.length := ⟨_, rfl⟩
            have Hrd := Lib.hid (show Rd w2 (.slice pj n kj) n (iv x) by rw [hn]; exact hrow.ints)
            rw [← hn] at hxl c0
            have Hn := Lib.hid hn
            have HKn := Lib.hid hKn
            have Hgi := Lib.hid hgi.out
            have Hg := Lib.hid hg.out
            have Hb := Lib.hid hb.out
            have hju : (j : Int) < (N.length : Int) := by omega
            have hKs : K.length ≤ 1000000 := by have := HLl.out; have := HNl.out; omega
            obtain ⟨F, q1, q2, q3⟩ := ho.out
            have Q1 := Lib.hid q1
            have Q2 := Lib.hid q2
            have Q3 := Lib.hid q3
            obtain ⟨pK, kK, rfl, _, _⟩ := q1.shape
            have Hb1 := Lib.hid (show 1 + n ≤ maxLen by unfold maxLen; omega)
            have Hb2 := Lib.hid (show (1 + n) * 8 ≤ 140737488355328 by omega)
            have Hc1 := Lib.hid (show K.length + 1 ≤ maxLen by unfold maxLen; omega)
            have Hc2 := Lib.hid (show (K.length + 1) * 24 ≤ 140737488355328 by omega)
            clear hK hKl hKn hrow hx hn q1 q2 q3 ho hb hg hgi ej hKs
            go_wp2_with (at_builtin; first
              | (refine wpList_append_G rfl (.tmp 29) (.tmp 34) 57 rfl 24 (.slice none 0 0) 24 Tryz.underlying57 info_sl rfl w.heap.size w2.heap.size _ K.length F rfl ((Q1.out.below Hbx.out).below (below_alloc w3 _)) (by simp; omega) (by simp; omega) _ 1 _ rfl (rd_one _ _ _ rfl) (fun j _ => rfl) Hc1.out Hc2.out ?_; intro v5 w5 ho5 hg5 hw5)
              | go_must (refine wpList_append_F rfl (.tmp 31) (.tmp 32) 24 rfl 3 (.int .i64 0) 8 Tryz.underlying24 info_int rfl w2.heap.size (w2.heap.size + 1) _ 1 (fun _ => .int .i64 ((t : Int) + 1)) rfl (OwnF.made1 w2 3 _) (by rw [size_alloc]; omega) (by rw [size_alloc]; omega) _ n (iv x) rfl (Hrd.out.below (below_alloc w2 _)) (fun j _ => rfl) Hb1.out Hb2.out ?_; intro v3 w3 ho3 hg3; have hr3 := OwnI.cons1 Hn.out ho3; have hbx : Below w2.heap.size w2 w3 := (below_alloc w2 _).trans (grownBy_below hg3 (OwnF.made1 w2 3 (.int .i64 ((t : Int) + 1))).blocks (Nat.le_refl _) (by rw [size_alloc]; omega)); obtain ⟨p4, k4, rfl, _, _⟩ := hr3.shape; have Hr3 := Lib.hid hr3; have Hbx := Lib.hid hbx; have hs3 := hbx.size; clear hr3 hbx ho3 hg3))
            have hb5 := below_alloc w3 (.cells #[.slice p4 (((t : Int) + 1) :: x).length k4] 24)
            have hs5 := OwnII.snoc ((Q1.out.below Hbx.out).below hb5) (fun i hi => ((Q2.out i hi).below Hbx.out).below hb5) Q3.out (Hr3.out.below hb5) (by omega) (by omega) (by decide) hg5 (by have := hg5.size; simp at this; omega) (ho5.congr fun j hj => by by_cases e : j < K.length <;> simp [e])
            have hbw : w2.grownBy w5 (Value.slice pK K.length kK).ownBlock := grown_after (Hbx.out.trans (hb5.mono hs3)) hg5
            have hgr := hbw.size
            have hwhere : ∀ b, v5.ownBlock = some b → b < wo.heap.size ∨ w1.heap.size ≤ b := fun b hb' => by
              rcases hw5 b hb' with h | h
              · exact Hb.out.2.2 b h
              · right; simp at h; omega
            have hG5 := Hg.out.grown hbw fun k hk e => by
              have : g0 = k := by simpa [Value.ownBlock] using hk
              have := Hb.out.2.2 k e
              omega
            have hI5 : ∀ i, i < N.length → OwnI 3 w5 wo.heap.size w1.heap.size (G i) (N.getD i []) := fun i hi => (Hgi.out i hi).grownBy hbw Q1.out (by decide)
            have hB5 : Below w.heap.size w w5 := Hb.out.1.trans (grownBy_below hbw Q1.out.blocks (Nat.le_refl _) hs9)
            have HS5 := Lib.hid hs5
            have HW5 := Lib.hid hwhere
            have HG5 := Lib.hid hG5
            have HI5 := Lib.hid hI5
            have HB5 := Lib.hid hB5
            have hz5 : w1.heap.size ≤ w5.heap.size := by omega
            obtain ⟨p6, k6, rfl, _, _⟩ := hs5.shape
            clear hs5 hwhere hG5 hI5 hB5 hbw hg5 hw5 ho5 hb5
            go_wp2_with fail
            go_roundg (N.length - (j + 1))
            case measure => omega
            case rel => exact ⟨j + 1, by omega, rfl, by go_num, by rw [HKn.out]; exact HS5, Lib.hid ⟨HB5.out, hz5, HW5.out⟩, HG5, HI5⟩
          · obtain rfl : j = N.length := by omega
            have hju : ¬ (N.length : Int) < (N.length : Int) := by omega
            have HK := Lib.hid hK
            have Ho := Lib.hid ho.out
            obtain ⟨p6, k6, rfl, _, _⟩ := ho.out.shape
            clear ho hK hKl
            go_wp2_with fail
            go_roundg (m - (t + 1))
            case measure => omega
            case rel => exact ⟨t + 1, by omega, rfl, by go_num, by rw [HLn.out, ← HN.out, show (L ++ N.map fun l => ((t : Int) + 1) :: l) = K by rw [HK.out, List.take_length]]; exact Ho, Lib.hid hb.out.1⟩
      · have ht1 : ¬ (t : Int) + 1 ≤ (m : Int) := by omega
        obtain rfl : t = m := by omega
        have HL := Lib.hid hL
        have Ho := Lib.hid ho.out
        obtain ⟨p3, k3, rfl, _, _⟩ := ho.out.shape
        clear ho hL
        go_wp2_with fail
        go_ret
        exact ⟨_, rfl, by rw [ishs, ← HL.out]; exact Ho.out, hb.out⟩

/-! ### sums -/
def sumTo2 (xs : List Int) : Nat → Int
  | 0 => 0
  | k + 1 => sumTo2 xs k + xs.getD k 0
def sumI (xs : List Int) : Int := sumTo2 xs xs.length
def sumOk (xs : List Int) : Prop := xs.length ≤ 1000 ∧ ∀ k, k < xs.length → 0 ≤ xs.getD k 0 ∧ xs.getD k 0 ≤ 1000000
theorem sumTo2_rng {xs : List Int} (h : sumOk xs) : ∀ k, k ≤ xs.length → 0 ≤ sumTo2 xs k ∧ sumTo2 xs k ≤ k * 1000000
  | 0, _ => by simp [sumTo2]
  | k + 1, hk => by
    have a := sumTo2_rng h k (by omega)
    have b := h.2 k (by omega)
    rw [sumTo2]
    push_cast
    omega

set_option maxRecDepth 100000 in
set_option maxHeartbeats 2000000 in
theorem sumInts_any (v : Value) (xs : List Int) (w : World) (h : Ints w v xs) (ho : sumOk xs) :
    Calls Tryz.prog 36 #[v] w fun e w' => e = .returned (.int .i64 (sumI xs)) ∧ Qt w w' := by
  obtain ⟨p, cap, rfl, ⟨hx1, hx2⟩, hxc⟩ := h
  unfold maxLen at hx2
  have HO := Lib.hid ho
  have hl := ho.1
  clear ho
  go_enter Tryz.func36, Tryz.ntmps36
  go_wp2_with fail
  go_loopg [3, 5, 8] xs.length (fun g s3 s5 s8 wr => ∃ k : Nat, k ≤ xs.length ∧ g = xs.length - k ∧ s8 = .int .i64 k ∧ s3 = .int .i64 (sumTo2 xs k) ∧ Qt w wr)
  case atStart => exact ⟨0, Nat.zero_le _, rfl, rfl, rfl, Qt.refl _⟩
  case round =>
    obtain ⟨k, hk, rfl, rfl, rfl, hq⟩ := hrel
    obtain ⟨z, hz⟩ : ∃ z, z = sumTo2 xs k := ⟨_, rfl⟩
    have hr := sumTo2_rng HO.out k hk
    rw [← hz] at hr ⊢
    have Hz := Lib.hid hz
    by_cases hlt : k < xs.length
    · obtain ⟨b, off, rfl, hc⟩ := hxc (by omega)
      obtain ⟨x, hx⟩ : ∃ x, x = xs.getD k 0 := ⟨_, rfl⟩
      have c1 := hq.cell (hc k hlt)
      unfold iv at c1
      rw [← hx] at c1
      have hx2 := HO.out.2 k hlt
      rw [← hx] at hx2
      have Hn := Lib.hid (show sumTo2 xs (k + 1) = z + x by rw [sumTo2, hz, hx])
      have hk1 : (k : Int) < (xs.length : Int) := by omega
      have hk2 : (k : Int) * 1000000 ≤ 1000000000 := by omega
      clear hx hc hxc hz
      go_wp2_with fail
      go_roundg (xs.length - (k + 1))
      case measure => omega
      case rel => exact ⟨k + 1, by omega, rfl, by go_num, by rw [Hn.out], hq⟩
    · obtain rfl : k = xs.length := by omega
      have hk1 : ¬ (xs.length : Int) < (xs.length : Int) := by omega
      clear hz
      go_wp2_with fail
      go_ret
      exact ⟨by rw [Hz.out]; rfl, hq⟩

end Go.Proofs.YtnpghgpejnlebaaGreat

namespace Go.Proofs.YtnpghgpejnlebaaGreat
set_option linter.all false
set_option maxRecDepth 100000
open Go.RowKit Go.Maps Go.WideMaps

/-- seven numbers as a key -/
def kls (e : List Int) : List Lit := e.map fun n => Lit.int .i64 n
def kv (e : List Int) : Value := .agg (e.map fun n => Value.int .i64 n).toArray
def kl (e : List Int) : Lit := .string (keyBytes (kls e))
/-- seven numbers, each from 0 to d -/
def K7 (d : Nat) (e : List Int) : Prop := e.length = 7 ∧ ∀ x ∈ e, 0 ≤ x ∧ x ≤ (d : Int)

theorem und56 : Tryz.prog.underlying 106 = some (.array 7 3) := by kernel_rfl
theorem und41 : Tryz.prog.underlying 97 = some (.map 106 3) := by kernel_rfl
theorem undI : Tryz.prog.underlying 3 = some (.int .i64) := by kernel_rfl
theorem arr7 : ArrKey Tryz.prog 106 3 7 := ⟨und56, by kernel_rfl, by kernel_rfl, by kernel_rfl⟩
theorem types_pos : ∃ m, Tryz.prog.types.size = m + 1 := ⟨Tryz.prog.types.size - 1, by have : 0 < Tryz.prog.types.size := of_decide_eq_true (by kernel_rfl); omega⟩
theorem klaw : Keyed Tryz.prog 106 := Keyed.of_law arr7.law
theorem zeroI (w : World) : (zeroValue 3).run Tryz.prog w = .ok (.int .i64 0) w := by kernel_rfl

theorem wf_of {d : Nat} {x : Int} (hd : d ≤ 1000000) (h : 0 ≤ x ∧ x ≤ (d : Int)) : (Lit.int .i64 x).wf = true := WalkArith.wf_i64 (by omega)
theorem keyOf_kv {e : List Int} {d : Nat} (h : K7 d e) (hd : d ≤ 1000000) : keyOf Tryz.prog 106 (kv e) = some (kl e) := by
  obtain ⟨hl, hr⟩ := h
  match e, hl with
  | [a, b, c, x, y, z, u], _ =>
    have wa := wf_of hd (hr a (by simp))
    have wb := wf_of hd (hr b (by simp))
    have wc := wf_of hd (hr c (by simp))
    have wx := wf_of hd (hr x (by simp))
    have wy := wf_of hd (hr y (by simp))
    have wz := wf_of hd (hr z (by simp))
    have wu := wf_of hd (hr u (by simp))
    have hkt := arr7.keyType types_pos
    obtain ⟨m, hm⟩ := types_pos
    unfold keyOf kv kl kls
    simp only [und56]
    rw [if_pos (by simp [hkt, Value.formed, und56, arr7.size]), hm]
    unfold Program.keyLits
    simp only [und56, Value.cells]
    rw [if_pos (by rw [arr7.size]; rfl), show List.range 7 = [0, 1, 2, 3, 4, 5, 6] from rfl]
    simp [arr7.one, Program.keyLits, undI, wa, wb, wc, wx, wy, wz, wu]
set_option maxRecDepth 100000 in
theorem kl_inj {e e' : List Int} {d d' : Nat} (h : K7 d e) (hd : d ≤ 1000000) (h' : K7 d' e') (hd' : d' ≤ 1000000) (hk : kl e = kl e') : e = e' := by
  have a := keyOf_kv h hd
  have b := keyOf_kv h' hd'
  rw [← hk] at b
  have := klaw.inj a b
  unfold kv at this
  injection this with this
  have := congrArg Array.toList this
  simp only [List.toList_toArray] at this
  exact (List.map_inj_right (fun x y hxy => by injection hxy)).1 this

end Go.Proofs.YtnpghgpejnlebaaGreat

namespace Go.Proofs.YtnpghgpejnlebaaGreat
set_option linter.all false
set_option maxRecDepth 100000
open Go.RowKit Go.Maps Go.WideMaps

abbrev DU := DataW Unit
def coef : DU → Int
  | .lit (.int _ c) => c
  | _ => 0
def SmL (h : Lit → Int) : List (Lit × DU) → Int
  | [] => 0
  | p :: l => coef p.2 * h p.1 + SmL h l
def SmD (D : DU) (h : Lit → Int) : Int := match D with
  | .map es => SmL h es
  | _ => 0
theorem SmL_perm (h : Lit → Int) {l l' : List (Lit × DU)} (hp : l.Perm l') : SmL h l = SmL h l' := by
  induction hp with
  | nil => rfl
  | cons x _ ih => simp only [SmL, ih]
  | swap x y l => simp only [SmL]; omega
  | trans _ _ a b => exact a.trans b
theorem SmL_split (h : Lit → Int) (f : Lit × DU → Bool) : ∀ l : List (Lit × DU), SmL h l = SmL h (l.filter f) + SmL h (l.filter fun p => !f p)
  | [] => rfl
  | p :: l => by
    have ih := SmL_split h f l
    cases hf : f p <;> simp [SmL, List.filter_cons, hf, ih] <;> omega
theorem find_one {l : List (Lit × DU)} {k : Lit} (hd : l.Pairwise fun p q => p.1 ≠ q.1) (hk : WideAt.IsKeyLit k) (h : Lit → Int) :
    SmL h (l.filter fun p => p.1.sameKey k) = coef ((DataW.map l).atKey k (.lit (.int .i64 0))) * h k := by
  induction l with
  | nil => simp [SmL, DataW.atKey, coef]
  | cons p l ih =>
    rw [List.pairwise_cons] at hd
    cases hs : p.1.sameKey k with
    | true =>
      have e := WideAt.sameKey_eq hs
      have hn : l.filter (fun p => p.1.sameKey k) = [] := by
        rw [List.filter_eq_nil_iff]
        intro q hq hqs
        exact hd.1 q hq (by rw [e, WideAt.sameKey_eq hqs])
      rw [List.filter_cons, if_pos hs, hn]
      simp [SmL, DataW.atKey, List.find?_cons, e, WideAt.sameKey_self hk]
    | false =>
      rw [List.filter_cons, if_neg (by rw [hs]; decide), ih hd.2]
      simp [DataW.atKey, List.find?_cons, hs]
theorem SmD_del {D : DU} (hD : Tidy D) {k : Lit} (hk : WideAt.IsKeyLit k) (h : Lit → Int) : SmD D h = SmD (D.del k) h + coef (D.atKey k (.lit (.int .i64 0))) * h k := by
  obtain ⟨es, rfl, hd⟩ := hD
  have := SmL_split h (fun p => p.1.sameKey k) es
  rw [find_one hd hk] at this
  show SmL h es = SmL h (es.filter fun p => !p.1.sameKey k) + _
  omega
theorem SmD_put {D : DU} (hD : Tidy D) {k : Lit} (h : Lit → Int) (d : DU) : SmD (D.put k d) h = SmD (D.del k) h + coef d * h k := by
  obtain ⟨es, rfl, hd⟩ := hD
  show SmL h (DataW.insert (k, d) (es.filter fun p => !p.1.sameKey k)) = SmL h (es.filter fun p => !p.1.sameKey k) + _
  rw [SmL_perm h (WideShapes.insert_perm _ _)]
  exact Int.add_comm _ _
theorem del_put {D : DU} (hD : Tidy D) {k : Lit} (hk : WideAt.IsKeyLit k) (h : Lit → Int) (d : DU) : SmD ((D.put k d).del k) h = SmD (D.del k) h := by
  have a := SmD_del (hD.put hk d) hk h
  rw [SmD_put hD h d, atKey_put_same hD.isMap hk] at a
  omega

/-! ### what is left of a map while it is ranged over -/
def SmK (D : DU) (left : Lit → Bool) (h : Lit → Int) : Int := match D with
  | .map es => SmL h (es.filter fun p => left p.1)
  | _ => 0
theorem SmK_all {D : DU} (hD : Tidy D) (hk : ∀ l, has D l = true → WideAt.IsKeyLit l) (hm : ∀ es, D = .map es → ∀ p ∈ es, WideAt.IsKeyLit p.1) (h : Lit → Int) : SmK D (has D) h = SmD D h := by
  obtain ⟨es, rfl, hd⟩ := hD
  show SmL h (es.filter fun p => has (.map es) p.1) = SmL h es
  rw [List.filter_eq_self.2]
  intro p hp
  exact List.any_eq_true.2 ⟨p, hp, WideAt.sameKey_self (hm es rfl p hp)⟩
theorem SmK_none {D : DU} {left : Lit → Bool} (hl : ∀ l, left l = false) (h : Lit → Int) : SmK D left h = 0 := by
  cases D <;> try rfl
  rename_i es
  show SmL h (es.filter fun p => left p.1) = 0
  rw [List.filter_eq_nil_iff.2 (fun p _ => by rw [hl]; decide)]
  rfl
theorem SmK_step {D : DU} (hD : Tidy D) {left : Lit → Bool} {k : Lit} (hk : WideAt.IsKeyLit k) (hl : left k = true) (h : Lit → Int) :
    SmK D left h = coef (D.atKey k (.lit (.int .i64 0))) * h k + SmK D (fun z => left z && !z.sameKey k) h := by
  obtain ⟨es, rfl, hd⟩ := hD
  show SmL h (es.filter fun p => left p.1) = _ + SmL h (es.filter fun p => left p.1 && !p.1.sameKey k)
  rw [SmL_split h (fun p => p.1.sameKey k) (es.filter fun p => left p.1), List.filter_filter, List.filter_filter, ← find_one hd hk]
  congr 1
  · congr 1
    apply List.filter_congr
    intro p _
    cases hs : p.1.sameKey k with
    | true => rw [WideAt.sameKey_eq hs, hl]; rfl
    | false => simp
  · congr 1
    apply List.filter_congr
    intro p _
    rw [Bool.and_comm]

end Go.Proofs.YtnpghgpejnlebaaGreat

namespace Go.Proofs.YtnpghgpejnlebaaGreat
set_option linter.all false
set_option maxRecDepth 100000
open Go.RowKit Go.Maps Go.WideMaps

abbrev Pl := List (List Int × Int)
/-- the sum over the entries -/
def Ev (P : Pl) (g : List Int → Int) : Int := match P with
  | [] => 0
  | p :: l => p.2 * g p.1 + Ev l g
theorem Ev_append (P Q : Pl) (g : List Int → Int) : Ev (P ++ Q) g = Ev P g + Ev Q g := by
  induction P with
  | nil => simp [Ev]
  | cons p l ih => simp only [List.cons_append, Ev, ih]; omega
def M64 : Int := 18446744073709551616
/-- alike but for multiples of 2^64 -/
def Cg (a b : Int) : Prop := ∃ m, a = b + M64 * m
theorem Cg.refl (a : Int) : Cg a a := ⟨0, by simp⟩
theorem Cg.of (a b : Int) (h : a = b) : Cg a b := h ▸ Cg.refl a
theorem Cg.symm {a b : Int} (h : Cg a b) : Cg b a := by
  obtain ⟨m, rfl⟩ := h
  exact ⟨-m, by rw [Int.mul_neg]; omega⟩
theorem Cg.trans {a b c : Int} (h : Cg a b) (h' : Cg b c) : Cg a c := by
  obtain ⟨m, rfl⟩ := h
  obtain ⟨m', rfl⟩ := h'
  exact ⟨m' + m, by rw [Int.mul_add]; omega⟩
theorem Cg.add {a b c e : Int} (h : Cg a b) (h' : Cg c e) : Cg (a + c) (b + e) := by
  obtain ⟨m, rfl⟩ := h
  obtain ⟨m', rfl⟩ := h'
  exact ⟨m + m', by rw [Int.mul_add]; omega⟩
theorem Cg.mul {a b c e : Int} (h : Cg a b) (h' : Cg c e) : Cg (a * c) (b * e) := by
  obtain ⟨m, rfl⟩ := h
  obtain ⟨m', rfl⟩ := h'
  refine ⟨m * e + b * m' + M64 * m * m', ?_⟩
  simp only [Int.add_mul, Int.mul_add, Int.mul_assoc, Int.mul_left_comm, Int.mul_comm]
  omega
theorem Cg.neg {a b : Int} (h : Cg a b) : Cg (-a) (-b) := by
  obtain ⟨m, rfl⟩ := h
  exact ⟨-m, by rw [Int.mul_neg]; omega⟩

open Classical in
noncomputable def unkl (l : Lit) : List Int := if h : ∃ e, l = kl e ∧ K7 1000000 e then h.choose else []
theorem K7.mono {d d' : Nat} {e : List Int} (h : K7 d e) (hd : d ≤ d') : K7 d' e := ⟨h.1, fun x hx => by have := h.2 x hx; omega⟩
theorem unkl_kl {e : List Int} {d : Nat} (h : K7 d e) (hd : d ≤ 1000000) : unkl (kl e) = e := by
  have hx : ∃ e', kl e = kl e' ∧ K7 1000000 e' := ⟨e, rfl, h.mono hd⟩
  unfold unkl
  rw [dif_pos hx]
  exact (kl_inj (h.mono hd) (Nat.le_refl _) hx.choose_spec.2 (Nat.le_refl _) hx.choose_spec.1).symm
/-- a map's datum adds up as a list does; its keys are from 0 to d -/
structure PolM (d : Nat) (D : DU) (P : Pl) : Prop where
  tidy : Tidy D
  keys : ∀ l, has D l = true → ∃ e, l = kl e ∧ K7 d e
  sum : ∀ g : List Int → Int, Cg (SmD D fun l => g (unkl l)) (Ev P g)
  nz : ∀ l, has D l = true → ∀ z, D.atKey l z ≠ .lit (.int .i64 0)
theorem PolM.empty (d : Nat) : PolM d (.map []) [] := ⟨tidy_empty, fun l h => by simp [has] at h, fun g => Cg.refl _, fun l h => by simp [has] at h⟩
theorem PolM.mono {d d' : Nat} {D : DU} {P : Pl} (h : PolM d D P) (hd : d ≤ d') : PolM d' D P :=
  ⟨h.tidy, fun l hl => by obtain ⟨e, h1, h2⟩ := h.keys l hl; exact ⟨e, h1, h2.mono hd⟩, h.sum, h.nz⟩
theorem kl_lit (e : List Int) : WideAt.IsKeyLit (kl e) := trivial
/-- a number added at a key -/
def addD (D : DU) (k : Lit) (s : Int) : DU := if s = 0 then (D.put k (.lit (.int .i64 s))).del k else D.put k (.lit (.int .i64 s))
theorem PolM.add {d : Nat} {D : DU} {P : Pl} (h : PolM d D P) (hd : d ≤ 1000000) {e : List Int} (he : K7 d e) {c0 c s : Int}
    (hat : D.atKey (kl e) (.lit (.int .i64 0)) = .lit (.int .i64 c0)) (hs : Cg s (c0 + c)) : PolM d (addD D (kl e) s) (P ++ [(e, c)]) := by
  have ht := h.tidy.put (kl_lit e) (.lit (.int .i64 s))
  have hput : ∀ l, has (D.put (kl e) (.lit (.int .i64 s))) l = true → ∃ e', l = kl e' ∧ K7 d e' := fun l hl => by
    by_cases hk : l = kl e
    · exact ⟨e, hk, he⟩
    · rw [has_put_other hk] at hl
      exact h.keys l hl
  have hsum : ∀ g : List Int → Int, Cg (SmD (addD D (kl e) s) fun l => g (unkl l)) (Ev (P ++ [(e, c)]) g) := fun g => by
    have a := SmD_del h.tidy (kl_lit e) (fun l => g (unkl l))
    have b := SmD_put h.tidy (k := kl e) (fun l => g (unkl l)) (.lit (.int .i64 s))
    have b2 := del_put h.tidy (kl_lit e) (fun l => g (unkl l)) (.lit (.int .i64 s))
    have e1 : (SmD (addD D (kl e) s) fun l => g (unkl l)) = (SmD (D.del (kl e)) fun l => g (unkl l)) + s * g e := by
      unfold addD
      split
      · rename_i h0
        rw [b2, h0]; simp
      · rw [b]; simp only [coef, unkl_kl he hd]
    rw [e1, Ev_append]
    rw [hat] at a
    simp only [coef, unkl_kl he hd] at a
    have hsm := h.sum g
    rw [a] at hsm
    have h1 : Cg (s * g e) (c0 * g e + c * g e) := by rw [← Int.add_mul]; exact hs.mul (Cg.refl _)
    have h2 := (Cg.refl (SmD (D.del (kl e)) fun l => g (unkl l))).add h1
    have h3 := hsm.add (Cg.refl (c * g e))
    refine h2.trans ?_
    rw [← Int.add_assoc]
    simpa [Ev] using h3
  unfold addD at hsum ⊢
  split at hsum
  · rename_i h0
    rw [if_pos h0]
    refine ⟨ht.del _, fun l hl => ?_, hsum, fun l hl z => ?_⟩
    · by_cases hk : l = kl e
      · exact ⟨e, hk, he⟩
      · rw [has_del_other hk] at hl
        exact hput l hl
    · by_cases hk : l = kl e
      · rw [hk, has_del_same] at hl; cases hl
      · rw [has_del_other hk, has_put_other hk] at hl
        rw [atKey_del_other hk, atKey_put_other hk]
        exact h.nz l hl z
  · rename_i h0
    rw [if_neg h0]
    refine ⟨ht, hput, hsum, fun l hl z => ?_⟩
    by_cases hk : l = kl e
    · rw [hk, atKey_put_same h.tidy.isMap (kl_lit e)]
      intro e2
      injection e2 with e2
      injection e2 with _ e2
      exact h0 e2
    · rw [has_put_other hk] at hl
      rw [atKey_put_other hk]
      exact h.nz l hl z

end Go.Proofs.YtnpghgpejnlebaaGreat

namespace Go.Proofs.YtnpghgpejnlebaaGreat
set_option linter.all false
set_option maxRecDepth 100000
open Go.RowKit Go.Maps Go.WideMaps Go.WideElems Go.MapKept Go.ChangeMaps Go.ChangeShapes

section
variable {H : Type} {P : Program} {w : World} {t k e : TypeId} {R : Value → Option (DataW H × List MemPlace)} {b : Nat} {es : Array MapEntry} {clock : Nat}
theorem entry_es (K : KeyLaw P k) (ht : P.underlying t = some (.map k e)) {z : Value} (hz : ∀ u : World, (zeroValue e).run P u = .ok z u) (hb : w.heap[b]? = some (.map es clock)) (F : Fit P k R es clock)
    {key : Value} {kl : Lit} (hkey : keyOf P k key = some kl) {v0 : Value} {st : Nat} {es1 : Array MapEntry} {clock1 : Nat}
    (hrun : (Instr.mapEntry t (.map (some b)) key).run P w = .ok (.tuple #[v0, goInt st]) (setBlock w b (.map es1 clock1))) :
    (es1 = es ∧ ∃ e0 ∈ es.toList, e0.key = key ∧ v0 = e0.val) ∨ (es1 = es.push ⟨key, z, clock⟩ ∧ v0 = z ∧ ∀ x ∈ es.toList, x.key ≠ key) := by
  have hs : ∀ {es' : Array MapEntry} {c' : Nat}, setBlock w b (.map es1 clock1) = setBlock w b (.map es' c') → es1 = es' := fun h => by
    have h1 := heap_setBlock_same hb (.map es1 clock1)
    rw [h, heap_setBlock_same hb] at h1
    injection h1 with h1
    injection h1 with h1 _
    exact h1.symm
  rcases K.find w hkey es.toList F.keys with ⟨h1, h2⟩ | ⟨j, e0, h1, h2, h3⟩
  · have e1 : (Instr.mapEntry t (.map (some b)) key).run P w = .ok (.tuple #[z, goInt clock]) (setBlock w b (.map (es.push ⟨key, z, clock⟩) (clock + 1))) := by
      simp [Instr.mapEntry, run_underlying ht, MapKept.run_getObj_map hb, K.check w false hkey, h1, hz, MapKept.run_setObj_map _ hb, Result.andThen, setBlock]
    rw [e1] at hrun
    injection hrun with hv hw
    injection hv with hv
    have : z = v0 := by
      have := congrArg (fun a => a[0]?) hv
      simpa using this
    exact .inr ⟨hs hw.symm, this.symm, h2⟩
  · have hj : es[j]? = some e0 := by simpa using h2
    have e1 : (Instr.mapEntry t (.map (some b)) key).run P w = .ok (.tuple #[e0.val, goInt e0.born]) (setBlock w b (.map (es.modify j fun e => { e with key := key }) clock)) := by
      simp [Instr.mapEntry, run_underlying ht, MapKept.run_getObj_map hb, K.check w false hkey, h1, hj, h3, K.stays w hkey, MapKept.run_setObj_map _ hb, Result.andThen, setBlock]
    have hsame : es.modify j (fun e => { e with key := key }) = es := by
      apply Array.ext'
      rw [Array.toList_modify, modify_eq_set _ _ _ _ h2]
      have : ({ e0 with key := key } : MapEntry) = e0 := by rw [← h3]
      rw [this]
      exact set_self _ _ _ h2
    rw [e1, hsame] at hrun
    injection hrun with hv hw
    injection hv with hv
    have : e0.val = v0 := by
      have := congrArg (fun a => a[0]?) hv
      simpa using this
    exact .inl ⟨hs hw.symm, e0, List.mem_of_getElem? h2, h3, this.symm⟩
/-- a look-up finds what stands at the one entry of its key -/
theorem look_at (K : KeyLaw P k) (ht : P.underlying t = some (.map k e)) {u : World} (hb : u.heap[b]? = some (.map es clock)) (hks : ∀ x ∈ es.toList, ∃ l, keyOf P k x.key = some l)
    {key : Value} {kl : Lit} (hkey : keyOf P k key = some kl) {v0 : Value} (hv : ∀ x ∈ es.toList, x.key = key → x.val = v0) (hex : ∃ x ∈ es.toList, x.key = key) :
    (Instr.lookup t (.map (some b)) key false).run P u = .ok v0 u := by
  rcases K.find u hkey es.toList hks with ⟨h1, h2⟩ | ⟨j, e0, h1, h2, h3⟩
  · obtain ⟨x, hx, hxk⟩ := hex
    exact absurd hxk (h2 x hx)
  · have e1 := hv e0 (List.mem_of_getElem? h2) h3
    simp [Instr.lookup, run_underlying ht, MapKept.run_getObj_map hb, K.check u _ hkey, h1, e1, Result.andThen]
theorem entry_look (K : KeyLaw P k) (ht : P.underlying t = some (.map k e)) {z : Value} (hz : ∀ u : World, (zeroValue e).run P u = .ok z u) (hb : w.heap[b]? = some (.map es clock)) (F : Fit P k R es clock)
    {key : Value} {kl : Lit} (hkey : keyOf P k key = some kl) {v0 : Value} {st : Nat} {es1 : Array MapEntry} {clock1 : Nat}
    (hrun : (Instr.mapEntry t (.map (some b)) key).run P w = .ok (.tuple #[v0, goInt st]) (setBlock w b (.map es1 clock1))) :
    (Instr.lookup t (.map (some b)) key false).run P (setBlock w b (.map es1 clock1)) = .ok v0 (setBlock w b (.map es1 clock1)) ∧ (Instr.lookup t (.map (some b)) key false).run P w = .ok v0 w := by
  have hne : es.toList.Pairwise (fun x y => x.key ≠ y.key) := ((stamped_iff es clock).1 F.stamped).2.2
  rcases entry_es K ht hz hb F hkey hrun with ⟨rfl, e0, he, hk, rfl⟩ | ⟨rfl, rfl, h2⟩
  · have hall : ∀ x ∈ es1.toList, x.key = key → x.val = e0.val := fun x hx hxk => by rw [entry_eq_of_key hne hx he (hxk.trans hk.symm)]
    exact ⟨look_at K ht (heap_setBlock_same hb _) F.keys hkey hall ⟨e0, he, hk⟩, look_at K ht hb F.keys hkey hall ⟨e0, he, hk⟩⟩
  · refine ⟨look_at K ht (heap_setBlock_same hb _) (fun x hx => ?_) hkey (fun x hx hxk => ?_) ⟨⟨key, v0, clock⟩, by simp, rfl⟩, ?_⟩
    · simp only [Array.toList_push, List.mem_append, List.mem_singleton] at hx
      rcases hx with hx | rfl
      · exact F.keys x hx
      · exact ⟨kl, hkey⟩
    · simp only [Array.toList_push, List.mem_append, List.mem_singleton] at hx
      rcases hx with hx | rfl
      · exact absurd hxk (h2 x hx)
      · rfl
    · rcases K.find w hkey es.toList F.keys with ⟨h1, _⟩ | ⟨j, e0, _, h3, h4⟩
      · simp [Instr.lookup, run_underlying ht, MapKept.run_getObj_map hb, K.check w _ hkey, h1, hz, Result.andThen]
      · exact absurd h4 (h2 e0 (List.mem_of_getElem? h3))
end

end Go.Proofs.YtnpghgpejnlebaaGreat
