/-
  Slices of matrices: what they hold; compared, marked, looked through by the law's own helpers.
  All matrices with any numbers at some places: spec.l7Power, spec.l7Fill, impl.matricesWith.
  slices.Index and slices.Contains at []int.
  FlagsWith: all flags in normal form with a permutation.
-/
import Derived.Test.YtoodgbflaaabmaaJ11
import Derived.Test.YtoodgbflaaabmaaJ5
import Derived.Test.YtoodgbflaaabmaaJ4
import Derived.Test.YtoodgbflaaabmaaJ2
import Derived.Test.YtoodgbflaaabmaaJ1
namespace Go.Proofs.Ytoodgbflaaabmaa
set_option linter.all false
open Go.RowKit

/-- the fields of matrices, the numbers' slices being f -/
def mxF (ms : List Mx) (f : Nat → Value) (i j : Nat) : Value :=
  match j with
  | 0 => .int .i64 (ms.getD i mxZero).P
  | 1 => .int .i64 (ms.getD i mxZero).R
  | 2 => .int .i64 (ms.getD i mxZero).C
  | _ => f i
/-- a slice of matrices that reads as a list -/
def RdMs (w : World) (v : Value) (ms : List Mx) : Prop := ∃ f, RdS w 4 v ms.length (mxF ms f) ∧ ∀ i, i < ms.length → Ints w (f i) (ms.getD i mxZero).D
/-- a slice of matrices that a call made -/
def OwnMs (w : World) (lo hi : Nat) (v : Value) (ms : List Mx) : Prop :=
  ∃ f, OwnS w lo hi 34 4 v ms.length (mxF ms f) ∧ (∀ i, i < ms.length → OwnI 3 w lo hi (f i) (ms.getD i mxZero).D) ∧
    ∀ i j, i < j → j < ms.length → ∀ k, (f i).ownBlock = some k → (f j).ownBlock ≠ some k
theorem RdMs.below {w w' : World} {v : Value} {ms : List Mx} (h : RdMs w v ms) (hb : Below w.heap.size w w') : RdMs w' v ms := by
  obtain ⟨f, h1, h2⟩ := h
  exact ⟨f, h1.below hb, fun i hi => (h2 i hi).below hb⟩
theorem RdMs.qt {w w' : World} {v : Value} {ms : List Mx} (h : RdMs w v ms) (q : Qt w w') : RdMs w' v ms := h.below (q.below _)
namespace OwnMs
variable {w w' : World} {lo hi : Nat} {v : Value} {ms : List Mx}
theorem rd (h : OwnMs w lo hi v ms) : RdMs w v ms := by
  obtain ⟨f, h1, h2, _⟩ := h
  exact ⟨f, h1.rd, fun i hi => (h2 i hi).ints⟩
theorem keep (h : OwnMs w lo hi v ms) (hb : ∀ k, lo ≤ k → k < hi → k < w.heap.size → w'.heap[k]? = w.heap[k]?) : OwnMs w' lo hi v ms := by
  obtain ⟨f, h1, h2, h3⟩ := h
  exact ⟨f, h1.keep hb, fun i hi => Own.keep (h2 i hi) hb, h3⟩
theorem below (h : OwnMs w lo hi v ms) (hb : Below w.heap.size w w') : OwnMs w' lo hi v ms := h.keep fun k _ _ h3 => hb.block k h3
theorem frm {lo' hi' : Nat} (h : OwnMs w lo hi v ms) (hb : Frm lo' hi' w w') (ho : hi ≤ lo' ∨ hi' ≤ lo) : OwnMs w' lo hi v ms := h.keep fun k h1 h2 h3 => hb.block k h3 (by omega)
theorem mono {lo' hi' : Nat} (h : OwnMs w lo hi v ms) (h1 : lo' ≤ lo) (h2 : hi ≤ hi') : OwnMs w lo' hi' v ms := by
  obtain ⟨f, g1, g2, g3⟩ := h
  exact ⟨f, g1.mono h1 h2, fun i hi => (g2 i hi).mono h1 h2, g3⟩
theorem shape (h : OwnMs w lo hi v ms) : ∃ p cap, v = .slice p ms.length cap ∧ ms.length ≤ cap ∧ cap ≤ maxLen := by
  obtain ⟨f, h1, _⟩ := h
  obtain ⟨p, cap, e, h2, h3, _⟩ := h1.shape
  exact ⟨p, cap, e, h2, h3⟩
theorem nil (w : World) (lo hi : Nat) : OwnMs w lo hi (.slice none 0 0) [] := ⟨fun _ => undef, OwnS.nil _ _ _ _ _ _, fun i hi => absurd hi (Nat.not_lt_zero _), fun i j _ hj => absurd hj (Nat.not_lt_zero _)⟩
theorem made0 (w : World) : OwnMs (w.alloc (.cells #[] 34)) w.heap.size (w.heap.size + 1) (.slice (some ⟨w.heap.size, 0, none⟩) 0 0) [] :=
  ⟨fun _ => undef, OwnS.made0 _ _ _ _, fun i hi => absurd hi (Nat.not_lt_zero _), fun i j _ hj => absurd hj (Nat.not_lt_zero _)⟩
theorem getD_snoc {ms : List Mx} {m : Mx} {i : Nat} : (ms ++ [m]).getD i mxZero = if i < ms.length then ms.getD i mxZero else if i = ms.length then m else mxZero := by
  by_cases h : i < ms.length
  · rw [if_pos h]; simp [List.getD_eq_getElem?_getD, List.getElem?_append_left h]
  · rw [if_neg h]
    by_cases e : i = ms.length
    · subst e; simp [List.getD_eq_getElem?_getD]
    · rw [if_neg e]; simp [List.getD_eq_getElem?_getD]; rw [List.getElem?_eq_none (by simp; omega)]; rfl
/-- a matrix of its own is put behind the others -/
theorem snoc {v' x : Value} {m : Mx} {mid : Nat} {f : Nat → Value} (g1 : OwnS w lo mid 34 4 v ms.length (mxF ms f)) (g2 : ∀ i, i < ms.length → OwnI 3 w lo mid (f i) (ms.getD i mxZero).D)
    (g3 : ∀ i j, i < j → j < ms.length → ∀ k, (f i).ownBlock = some k → (f j).ownBlock ≠ some k) (hx : OwnI 3 w mid hi x m.D) (hm : lo ≤ mid) (hmh : mid ≤ hi)
    (hg : w.grownBy w' v.ownBlock) (hsz : hi ≤ w'.heap.size)
    (hv : OwnS w' lo w'.heap.size 34 4 v' (ms.length + 1) (fun i => if i < ms.length then mxF ms f i else fun j => match j with | 0 => .int .i64 m.P | 1 => .int .i64 m.R | 2 => .int .i64 m.C | _ => x)) : OwnMs w' lo w'.heap.size v' (ms ++ [m]) := by
  have hrow : ∀ (y : Value) (ys : List Int) (lo1 hi1 : Nat), OwnI 3 w lo1 hi1 y ys → OwnI 3 w' lo1 hi1 y ys := fun y ys lo1 hi1 hy =>
    ⟨ownsRow_of_block hy.1 fun k hk => hg.block k (Own.block hy hk).2.2 fun e => ne_of_kinds (g1.kind k e.symm) (OwnI.kind hy k hk) (by decide), hy.2⟩
  refine ⟨fun i => if i < ms.length then f i else x, by
    rw [List.length_append]
    refine hv.congr fun i hi j hj => ?_
    by_cases h : i < ms.length
    · simp only [h, if_true]
      unfold mxF
      rw [getD_snoc, if_pos h]
      match j, hj with
      | 0, _ => rfl
      | 1, _ => rfl
      | 2, _ => rfl
      | 3, _ => simp only [h, if_true]
    · have : i = ms.length := by omega
      simp only [h, if_false]
      unfold mxF
      rw [getD_snoc, if_neg h, if_pos this]
      match j, hj with
      | 0, _ => rfl
      | 1, _ => rfl
      | 2, _ => rfl
      | 3, _ => simp only [h, if_false], fun i hi => ?_, fun i j hij hj k hk => ?_⟩
  · rw [List.length_append] at hi
    simp only [List.length_singleton] at hi
    rw [getD_snoc]
    by_cases h : i < ms.length
    · simp only [h, if_true]
      exact (hrow _ _ _ _ (g2 i h)).mono (Nat.le_refl _) (by omega)
    · have : i = ms.length := by omega
      simp only [h, if_false]
      rw [if_pos this]
      exact (hrow _ _ _ _ hx).mono hm hsz
  · rw [List.length_append] at hj
    simp only [List.length_singleton] at hj
    simp only [show i < ms.length by omega, if_true] at hk
    by_cases h : j < ms.length
    · simp only [h, if_true]
      exact g3 i j hij h k hk
    · simp only [h, if_false]
      intro e
      have h5 := (Own.block (g2 i (by omega)) hk).2.1
      have h6 := (Own.block hx e).1
      omega
end OwnMs

/-- where the i-th matrix lies -/
theorem RdS.four {w : World} {v : Value} {ms : List Mx} {f : Nat → Value} (h : RdS w 4 v ms.length (mxF ms f)) : ∃ p cap, v = .slice p ms.length cap ∧ (ms.length ≤ cap ∧ cap ≤ maxLen) ∧
    (0 < ms.length → ∃ b, p = some ⟨b, 0, none⟩ ∧ ∀ i, i < ms.length → w.cell? ⟨b, i * 4, none⟩ = some (.int .i64 (ms.getD i mxZero).P) ∧ w.cell? ⟨b, i * 4 + 1, none⟩ = some (.int .i64 (ms.getD i mxZero).R) ∧ w.cell? ⟨b, i * 4 + 2, none⟩ = some (.int .i64 (ms.getD i mxZero).C) ∧ w.cell? ⟨b, i * 4 + 3, none⟩ = some (f i)) := by
  obtain ⟨p, cap, rfl, hm, h⟩ := h
  refine ⟨p, cap, rfl, hm, fun h0 => ?_⟩
  obtain ⟨b, hp, hx⟩ := h h0
  exact ⟨b, hp, fun i hi => ⟨hx i hi 0 (by omega), hx i hi 1 (by omega), hx i hi 2 (by omega), hx i hi 3 (by omega)⟩⟩

/-- how many numbers the first k matrices have, three besides for each -/
def preM (ms : List Mx) (k : Nat) : Nat := ((ms.take k).map fun m => 3 + m.D.length).sum
theorem preM_zero (ms : List Mx) : preM ms 0 = 0 := by simp [preM]
theorem preM_succ (ms : List Mx) (k : Nat) (h : k < ms.length) : preM ms (k + 1) = preM ms k + (3 + (ms.getD k mxZero).D.length) := by
  have e : ms[k]? = some (ms.getD k mxZero) := by rw [List.getD_eq_getElem?_getD, List.getElem?_eq_getElem h]; rfl
  unfold preM
  rw [List.take_add_one, e, List.map_append, List.sum_append]
  simp
theorem preM_le (ms : List Mx) (k : Nat) : preM ms k ≤ preM ms ms.length := by
  have e : (ms.map fun m => 3 + m.D.length).sum = ((ms.take k).map fun m => 3 + m.D.length).sum + ((ms.drop k).map fun m => 3 + m.D.length).sum := by
    rw [← List.sum_append, ← List.map_append, List.take_append_drop]
  unfold preM
  rw [List.take_of_length_le (Nat.le_refl _)]
  omega
/-- a matrix written over by m, m+1, .. -/
def runMx (m : Int) (n : Nat) : Mx := ⟨m, m + 1, m + 2, runs (m + 3) n⟩
def runsMs (m : Int) (ms : List Mx) : List Mx := (List.range ms.length).map fun i => runMx (m + preM ms i) (ms.getD i mxZero).D.length
theorem length_runsMs (m : Int) (ms : List Mx) : (runsMs m ms).length = ms.length := by simp [runsMs]
theorem getD_runsMs (m : Int) (ms : List Mx) {i : Nat} (h : i < ms.length) : (runsMs m ms).getD i mxZero = runMx (m + preM ms i) (ms.getD i mxZero).D.length := by
  simp [runsMs, List.getD_eq_getElem?_getD, h]
/-- the first k are marked -/
def markF (m : Int) (ms : List Mx) (f : Nat → Value) (k i j : Nat) : Value := if i < k then mxF (runsMs m ms) f i j else mxF ms f i j
theorem markF_next (m : Int) (ms : List Mx) (f : Nat → Value) {k : Nat} (hk : k < ms.length) : ∀ i, i < ms.length → ∀ j, j < 4 →
    (if i = k ∧ j = 2 then Value.int .i64 (m + preM ms k + 1 + 1) else if i = k ∧ j = 1 then .int .i64 (m + preM ms k + 1) else if i = k ∧ j = 0 then .int .i64 (m + preM ms k) else markF m ms f k i j) = markF m ms f (k + 1) i j := by
  intro i hi j hj
  unfold markF
  by_cases e : i = k
  · subst e
    rw [if_pos (show i < i + 1 by omega), if_neg (Nat.lt_irrefl i)]
    unfold mxF
    rw [getD_runsMs m ms hk]
    match j, hj with
    | 0, _ => simp [runMx]
    | 1, _ => simp [runMx]
    | 2, _ => simp [runMx]; omega
    | 3, _ => simp
  · simp only [e, false_and, if_false]
    by_cases h : i < k
    · rw [if_pos h, if_pos (by omega)]
    · rw [if_neg h, if_neg (by omega)]

end Go.Proofs.Ytoodgbflaaabmaa

namespace Go.Proofs.Ytoodgbflaaabmaa
set_option linter.all false
open Go.RowKit

/-- the numbers behind j steps: from the last place down, the digits of x -/
def fillSt (p : Nat) (D : List Int) (free : List Nat) (x : Nat) : Nat → List Int × Nat
  | 0 => (D, x)
  | j + 1 => ((fillSt p D free x j).1.set (free.getD (free.length - 1 - j) 0) (((fillSt p D free x j).2 % p : Nat) : Int), (fillSt p D free x j).2 / p)
theorem fillSt_length (p : Nat) (D : List Int) (free : List Nat) (x : Nat) : ∀ j, (fillSt p D free x j).1.length = D.length
  | 0 => rfl
  | j + 1 => by simp [fillSt, fillSt_length p D free x j]
theorem fillSt_le (p : Nat) (D : List Int) (free : List Nat) (x : Nat) : ∀ j, (fillSt p D free x j).2 ≤ x
  | 0 => Nat.le_refl _
  | j + 1 => Nat.le_trans (Nat.div_le_self _ _) (fillSt_le p D free x j)
/-- the first n matrices -/
def fillMs (p : Nat) (R C : Int) (D : List Int) (free : List Nat) (n : Nat) : List Mx := (List.range n).map fun x => ⟨p, R, C, (fillSt p D free x free.length).1⟩
theorem fillMs_length (p : Nat) (R C : Int) (D : List Int) (free : List Nat) (n : Nat) : (fillMs p R C D free n).length = n := by simp [fillMs]
theorem fillMs_succ (p : Nat) (R C : Int) (D : List Int) (free : List Nat) (n : Nat) : fillMs p R C D free (n + 1) = fillMs p R C D free n ++ [⟨p, R, C, (fillSt p D free n free.length).1⟩] := by
  simp [fillMs, List.range_succ]
/-- places, as numbers -/
def nats (l : List Nat) : List Int := l.map fun (x : Nat) => (x : Int)
theorem nats_length (l : List Nat) : (nats l).length = l.length := by simp [nats]
theorem nats_getD (l : List Nat) {i : Nat} (h : i < l.length) : (nats l).getD i 0 = (l.getD i 0 : Nat) := by simp [nats, List.getD_eq_getElem?_getD, h]
theorem nats_snoc (l : List Nat) (x : Nat) : nats (l ++ [x]) = nats l ++ [(x : Int)] := by simp [nats]

theorem OwnI.setI {T : TypeId} {w : World} {lo hi g n cap t : Nat} {D : List Int} (h : OwnI T w lo hi (.slice (some ⟨g, 0, none⟩) n cap) D) (ht : t < D.length) (x : Int) : OwnI T (w.setCell ⟨g, t, none⟩ (.int .i64 x)) lo hi (.slice (some ⟨g, 0, none⟩) n cap) (D.set t x) := by
  refine OwnF.ints ?_
  rw [List.length_set]
  refine (h.fn.set t _).congr fun j hj => ?_
  unfold iv
  by_cases e : j = t
  · subst e; simp [List.getD_eq_getElem?_getD, ht]
  · simp [e, List.getD_eq_getElem?_getD, List.getElem?_set_ne (fun h => e h.symm)]
theorem mul_hid (a b : Nat) (h : a * b ≤ 1000000000000000000) : ∃ N, N = a * b ∧ Hid (wrap64 ((a : Int) * (b : Int)) = (N : Int)) ∧ Hid (IntKind.i64.wrap ((a : Int) * (b : Int)) = (N : Int)) := mul_named a b h

theorem free_at {D : List Int} {free : List Nat} (hb : ∀ t ∈ free, t < D.length) {i : Nat} (h : i < free.length) : free.getD i 0 < D.length := by
  rw [List.getD_eq_getElem?_getD, List.getElem?_eq_getElem h]
  exact hb _ (List.getElem_mem h)
theorem powE {p k n : Nat} (h2 : 2 ≤ p) (h : p ^ n ≤ 400) (hk : k ≤ n) : p ^ k ≤ 400 := Nat.le_trans (Nat.pow_le_pow_right (by omega) hk) h

set_option maxRecDepth 100000 in
set_option maxHeartbeats 1000000 in
theorem matricesWith_no (p : Nat) (R C : Int) (d fr : Value) (D : List Int) (free : List Nat) (w : World) (hf : Ints w fr (nats free)) (h2 : 2 ≤ p) (h7 : p ≤ 7) (hl : free.length ≤ 49) (hp : 400 < p ^ free.length) :
    Calls Try.prog 37 #[.agg #[.int .i64 (p : Int), .int .i64 R, .int .i64 C, d], fr] w fun e w' => e = .returned (.tuple #[.slice none 0 0, .bool false]) ∧ Below w.heap.size w w' := by
  obtain ⟨q, cap, rfl, ⟨hc1, hc2⟩, _⟩ := hf
  unfold maxLen at hc2
  rw [nats_length] at *
  have Hp := Lib.hid hp
  have Z := Lib.hid (heap_alloc_top w (.cells #[.int .i64 (p : Int), .int .i64 R, .int .i64 C, d] 34))
  clear hp
  go_enter Try.func37, Try.ntmps37
  go_wp2_with fail
  obtain ⟨W0, hW0⟩ : ∃ x, x = w.alloc (.cells #[.int .i64 (p : Int), .int .i64 R, .int .i64 C, d] 34) := ⟨_, rfl⟩
  have Hbl := Lib.hid (show Below w.heap.size w W0 by rw [hW0]; exact below_alloc _ _)
  have Z0 := Z.out
  rw [← hW0] at Z0 ⊢
  obtain ⟨b0, b1, b2, b3, bf, bz⟩ := blk4 Z0
  clear hW0 Z Z0
  go_loop [6, 13] (fun s6 s13 => ∃ i X : Nat, i ≤ free.length ∧ s13 = .int .i64 i ∧ s6 = .int .i64 X ∧ X ≤ 400 ∧ Hid (X = p ^ i)) (fun _ s13 => free.length - (intOf s13).toNat)
  case atStart => exact ⟨0, 1, Nat.zero_le _, rfl, rfl, by omega, by simp [Hid]⟩
  case round =>
    obtain ⟨i, X, hi, rfl, rfl, hX, hpw⟩ := hrel
    by_cases hlt : i < free.length
    · have hlt2 : (i : Int) < (free.length : Int) := by omega
      have hm : X * p ≤ 400 * 7 := Nat.mul_le_mul hX h7
      obtain ⟨N, hN, H3, H4⟩ := mul_hid X p (by omega)
      have HN := Lib.hid (show N = p ^ (i + 1) by rw [hN, hpw.out, Nat.pow_succ])
      have hN2 : N ≤ 2800 := by omega
      clear hN hm
      by_cases hx : N ≤ 400
      · have hx2 : ¬ (400 : Int) < (N : Int) := by omega
        have h3 := H3.out
        have h4 := H4.out
        go_wp2
        clear h3 h4
        go_round
        case rel => exact ⟨i + 1, N, by omega, by go_num, rfl, hx, HN.out⟩
        case measure => simp [intOf]; omega
      · have hx2 : (400 : Int) < (N : Int) := by omega
        have h3 := H3.out
        have h4 := H4.out
        go_wp2
        clear h3 h4
        go_ret2
        exact ⟨rfl, Hbl.out⟩
    · obtain rfl : i = free.length := by omega
      have := Hp.out
      rw [← hpw.out] at this
      omega

set_option maxRecDepth 100000 in
set_option maxHeartbeats 4000000 in
theorem matricesWith_yes (p : Nat) (R C : Int) (d fr : Value) (D : List Int) (free : List Nat) (w : World) (hd : Ints w d D) (hf : Ints w fr (nats free)) (h2 : 2 ≤ p) (h7 : p ≤ 7)
    (hb : ∀ t ∈ free, t < D.length) (hD : D.length ≤ 49) (hl : free.length ≤ 49) (hp : p ^ free.length ≤ 400) :
    Calls Try.prog 37 #[.agg #[.int .i64 (p : Int), .int .i64 R, .int .i64 C, d], fr] w fun e w' =>
      ∃ v, e = .returned (.tuple #[v, .bool true]) ∧ OwnMs w' w.heap.size w'.heap.size v (fillMs p R C D free (p ^ free.length)) ∧ Below w.heap.size w w' := by
  obtain ⟨N, hN⟩ : ∃ N, N = p ^ free.length := ⟨_, rfl⟩
  rw [← hN] at hp ⊢
  have HN := Lib.hid hN
  have Hd := Lib.hid hd
  have Hf := Lib.hid hf
  have Hb := Lib.hid hb
  obtain ⟨q, cap, rfl, ⟨hc1, hc2⟩, hcc⟩ := hf
  obtain ⟨qd, capd, rfl, ⟨hd1, hd2⟩, _⟩ := hd
  unfold maxLen at hc2 hd2
  have Hcc := Lib.hid hcc
  rw [nats_length] at *
  have HlF := Lib.hid (nats_length free)
  have Z := Lib.hid (heap_alloc_top w (.cells #[.int .i64 (p : Int), .int .i64 R, .int .i64 C, .slice qd D.length capd] 34))
  clear hN hb hcc
  go_enter Try.func37, Try.ntmps37
  go_wp2_with fail
  obtain ⟨W0, hW0⟩ : ∃ x, x = w.alloc (.cells #[.int .i64 (p : Int), .int .i64 R, .int .i64 C, .slice qd D.length capd] 34) := ⟨_, rfl⟩
  have Hbl := Lib.hid (show Below w.heap.size w W0 by rw [hW0]; exact below_alloc _ _)
  have hsz : W0.heap.size = w.heap.size + 1 := by rw [hW0]; simp
  have Z0 := Lib.hid Z.out
  have Z1 := Z0.out
  rw [← hW0] at Z1 ⊢
  have ZB := Lib.hid Z1
  obtain ⟨b0, b1, b2, b3, bf, bz⟩ := blk4 Z1
  have Hsz := Lib.hid hsz
  clear hW0 Z Z0 Z1 hsz
  go_loop [6, 13] (fun s6 s13 => ∃ i X : Nat, i ≤ free.length ∧ s13 = .int .i64 i ∧ s6 = .int .i64 X ∧ X ≤ 400 ∧ Hid (X = p ^ i)) (fun _ s13 => free.length - (intOf s13).toNat)
  case atStart => exact ⟨0, 1, Nat.zero_le _, rfl, rfl, by omega, by simp [Hid]⟩
  case round =>
    obtain ⟨i, X, hi, rfl, rfl, hX, hpw⟩ := hrel
    by_cases hlt : i < free.length
    · have hlt2 : (i : Int) < (free.length : Int) := by omega
      have hm : X * p ≤ 400 * 7 := Nat.mul_le_mul hX h7
      obtain ⟨M, hM, H3, H4⟩ := mul_hid X p (by omega)
      have HM := Lib.hid (show M = p ^ (i + 1) by rw [hM, hpw.out, Nat.pow_succ])
      have hx : M ≤ 400 := by rw [HM.out]; exact powE h2 (by rw [← HN.out]; exact hp) (by omega)
      have hx2 : ¬ (400 : Int) < (M : Int) := by omega
      clear hM hm
      have h3 := H3.out
      have h4 := H4.out
      go_wp2
      clear h3 h4
      go_round
      case rel => exact ⟨i + 1, M, by omega, by go_num, rfl, hx, HM.out⟩
      case measure => simp [intOf]; omega
    · obtain rfl : i = free.length := by omega
      have hXN : X = N := by rw [hpw.out, HN.out]
      subst hXN
      clear b0 b1 b2 b3 bf
      have hlt2 : ¬ (free.length : Int) < (free.length : Int) := by omega
      go_wp2_with fail
      go_loopg [7, 24] X (fun gg s7 s24 wr => ∃ k : Nat, k ≤ X ∧ gg = X - k ∧ s24 = .int .i64 k ∧ Below W0.heap.size W0 wr ∧ Hid (OwnMs wr W0.heap.size wr.heap.size s7 (fillMs p R C D free k)))
      case atStart => exact ⟨0, Nat.zero_le _, rfl, rfl, below_alloc _ _, (OwnMs.made0 W0).mono (Nat.le_refl _) (by simp)⟩
      case round =>
        obtain ⟨k, hk, rfl, rfl, hbl, hO⟩ := hrel
        by_cases hkl : k < X
        · have hkl2 : (k : Int) < (X : Int) := by omega
          obtain ⟨wo, rfl⟩ : ∃ x : World, x = wr := ⟨_, rfl⟩
          obtain ⟨z0, z1, z2, z3, zf, zz⟩ := blk4 (blk_later ZB.out hbl)
          have Hdw := Lib.hid (Hd.out.below (Hbl.out.trans (hbl.mono Hbl.out.size)))
          have HO := Lib.hid hO.out
          clear hO
          go_wp2_with fail
          refine (clone_any _ D _ (Hdw.out.below (below_alloc _ _)) (by omega)).mono ?_
          rintro e w2 ⟨u, rfl, ho, hb2⟩
          obtain ⟨pc, kc, rfl, _, _⟩ := ho.shape
          have zx := (hb2.block _ (by simp)).trans (heap_alloc_top wo (.cells #[.int .i64 (p : Int), .int .i64 R, .int .i64 C, .slice qd D.length capd] 34))
          obtain ⟨x0, x1, x2, x3, xf, xz⟩ := blk4 zx
          have Hsx := Lib.hid (show wo.heap.size + 1 ≤ w2.heap.size by have := hb2.size; rwa [size_alloc] at this)
          have Hb2 := Lib.hid ((below_alloc wo (.cells #[.int .i64 (p : Int), .int .i64 R, .int .i64 C, .slice qd D.length capd] 34)).trans (hb2.mono (by simp)))
          have Zx := Lib.hid zx
          have Ho := Lib.hid ho
          clear zx ho hb2
          go_wp2_with fail
          clear x0 x1 x2 x3 xf xz z0 z1 z2 z3 zf
          obtain ⟨w3, hw3⟩ : ∃ x, x = w2.setCell ⟨wo.heap.size, 3, none⟩ (.slice pc D.length kc) := ⟨_, rfl⟩
          have hbs : Below wo.heap.size w2 w3 := by rw [hw3]; exact (Below.refl _ _).setCell (p := ⟨wo.heap.size, 3, none⟩) (Nat.le_refl _) _
          have hzx : w3.heap[wo.heap.size]? = some (.cells #[.int .i64 (p : Int), .int .i64 R, .int .i64 C, .slice pc D.length kc] 34) := by rw [hw3, heap_setCell_at Zx.out]; rfl
          have hod : OwnI 3 w3 (wo.heap.size + 1) w3.heap.size (.slice pc D.length kc) D := by
            rw [hw3]
            refine (OwnI.setCell Ho.out (Or.inl (by rw [size_alloc]; exact Nat.lt_succ_self _)) _).mono (by rw [size_alloc]; exact Nat.le_refl _) (by rw [size_setCell]; exact Nat.le_refl _)
          have hb3 : Below wo.heap.size wo w3 := Hb2.out.trans hbs
          have hs3 : wo.heap.size + 1 ≤ w3.heap.size := by have := Hsx.out; rw [hw3, size_setCell]; exact this
          rw [← hw3]
          clear hw3 hbs
          have ZX := Lib.hid hzx
          have ZB3 := Lib.hid (blk_later (blk_later ZB.out hbl) hb3)
          have HB3 := Lib.hid hb3
          have Hfw := Lib.hid (Hf.out.below (Hbl.out.trans ((hbl.mono Hbl.out.size).trans (hb3.mono (Nat.le_trans Hbl.out.size hbl.size)))))
          obtain ⟨lo', hi', hto, hin⟩ := hod.tight
          have Hin := Lib.hid hin
          have Hto := Lib.hid hto
          have Hod := Lib.hid hod
          clear hod hto hin hzx Hb2 Zx Ho Hsx
          have hlo : (wo.heap.size + 1 ≤ lo' ∧ hi' ≤ w3.heap.size) ∨ hi' ≤ lo' := by
            rcases Nat.lt_or_ge lo' hi' with h | h
            · left
              have h1 := Hin.out lo' (Nat.le_refl _) h
              have h2 := Hin.out (hi' - 1) (by omega) (by omega)
              omega
            · exact Or.inr h
          go_loopg [8, 10] (free.length + 1) (fun gg s8 s10 wq => ∃ (t r : Nat) (D' : List Int), t ≤ free.length ∧ gg = t + 1 ∧ s10 = .int .i64 ((t : Int) - 1) ∧ s8 = .int .i64 (r : Int) ∧ r ≤ k ∧ Frm lo' hi' w3 wq ∧ Hid (OwnI 3 wq lo' hi' (.slice pc D.length kc) D') ∧ Hid (fillSt p D free k (free.length - t) = (D', r)))
          case atStart => exact ⟨free.length, k, D, Nat.le_refl _, rfl, rfl, rfl, Nat.le_refl _, Frm.refl _ _ _, Hto.out, by simp [Hid, fillSt]⟩
          case round =>
            obtain ⟨t, r, D', ht, rfl, rfl, rfl, hr, hF, hO1, hst⟩ := hrel
            have hlD : D'.length = D.length := by have := fillSt_length p D free k (free.length - t); rw [hst.out] at this; exact this
            have HlD := Lib.hid hlD
            have HF := Lib.hid hF
            have HO1 := Lib.hid hO1.out
            have Hst := Lib.hid hst.out
            clear hO1 hst hlD hF
            by_cases ht0 : t = 0
            · subst ht0
              rw [show ((0 : Nat) : Int) - 1 = -1 from rfl]
              obtain ⟨x0, x1, x2, x3, xf, xz⟩ := blk4 (HF.out.blk ZX.out (by omega))
              have hst2 := Hst.out
              rw [Nat.sub_zero] at hst2
              have hlD2 : (fillSt p D free k free.length).1 = D' := by rw [hst2]
              have blx : Below wo.heap.size w3 wr := by
                have hB := HB3.out.size
                refine ⟨HF.out.os, HF.out.tape, HF.out.output, HF.out.size, fun b hb => HF.out.block b (by omega) (by omega)⟩
              have blw : Below wo.heap.size wo wr := HB3.out.trans blx
              obtain ⟨f, g1, g2, g3⟩ := HO.out.below blw
              have hal := below_alloc wr (.cells #[.int .i64 (p : Int), .int .i64 R, .int .i64 C, .slice pc D.length kc] 34)
              have g1a := Lib.hid (g1.below hal)
              have g2a := Lib.hid fun i hi => (g2 i hi).below hal
              have G3 := Lib.hid g3
              have hx : OwnI 3 (wr.alloc (.cells #[.int .i64 (p : Int), .int .i64 R, .int .i64 C, .slice pc D.length kc] 34)) wo.heap.size (wr.alloc (.cells #[.int .i64 (p : Int), .int .i64 R, .int .i64 C, .slice pc D.length kc] 34)).heap.size (.slice pc D.length kc) D' :=
                (HO1.out.below hal).widen fun b hb => by
                  have h1 := Own.block HO1.out hb
                  rw [size_alloc]; omega
              have Hx := Lib.hid hx
              have Hcl := Lib.hid (show ∀ j, j < 4 → (wr.alloc (.cells #[.int .i64 (p : Int), .int .i64 R, .int .i64 C, .slice pc D.length kc] 34)).cell? ⟨wr.heap.size, j, none⟩ = some (match j with | 0 => Value.int .i64 (p : Int) | 1 => .int .i64 R | 2 => .int .i64 C | _ => .slice pc D.length kc) from fun j hj =>
                match j, hj with
                | 0, _ => cell_of_blk (heap_alloc_top wr _) (j := 0) rfl
                | 1, _ => cell_of_blk (heap_alloc_top wr _) (j := 1) rfl
                | 2, _ => cell_of_blk (heap_alloc_top wr _) (j := 2) rfl
                | 3, _ => cell_of_blk (heap_alloc_top wr _) (j := 3) rfl)
              have Hone := Lib.hid (show ∀ j, j < 4 → (match j with | 0 => Value.int .i64 (p : Int) | 1 => .int .i64 R | 2 => .int .i64 C | _ => .slice pc D.length kc).oneCell' = true from fun j hj =>
                match j, hj with
                | 0, _ => rfl
                | 1, _ => rfl
                | 2, _ => rfl
                | 3, _ => rfl)
              have Hn1 := Lib.hid (show (fillMs (p : Nat) R C D free k).length + 1 ≤ maxLen by rw [fillMs_length]; unfold maxLen; omega)
              have Hn2 := Lib.hid (show ((fillMs (p : Nat) R C D free k).length + 1) * 48 ≤ 140737488355328 by rw [fillMs_length]; omega)
              have Hlo := Lib.hid (show W0.heap.size ≤ (wr.alloc (.cells #[.int .i64 (p : Int), .int .i64 R, .int .i64 C, .slice pc D.length kc] 34)).heap.size by rw [size_alloc]; have := hbl.size; have := blw.size; omega)
              have Hblw := Lib.hid blw
              have HD2 := Lib.hid hlD2
              clear g1 g2 g3 hx blx blw hst2 hlD2 hal
              go_wp2_with (at_builtin; go_must (refine wpList_append_S rfl (.tmp 54) (.tmp 56) 28 rfl 34 _ 4 48 Try.underlying28 info_mx rfl (by omega) W0.heap.size wo.heap.size _ (fillMs p R C D free k).length (mxF (fillMs p R C D free k) f) rfl g1a.out Hlo.out _ _ _ rfl Hcl.out Hone.out Hn1.out Hn2.out ?_; intro v' w' hv hg))
              go_roundg (X - (k + 1))
              case measure => omega
              case rel =>
                have hgb := grownBy_below hg g1a.out.blocks (Nat.le_refl _) Hlo.out
                refine ⟨k + 1, by omega, rfl, by go_num, hbl.trans ((Hblw.out.mono hbl.size).trans ((below_alloc wr _).mono (Nat.le_trans hbl.size Hblw.out.size) |>.trans hgb)), ?_⟩
                show OwnMs _ _ _ _ _
                rw [fillMs_succ, HD2.out]
                exact OwnMs.snoc g1a.out g2a.out G3.out Hx.out hbl.size (by rw [size_alloc]; have := Hblw.out.size; omega) hg hg.size hv
            · obtain ⟨i, rfl⟩ : ∃ i, t = i + 1 := ⟨t - 1, by omega⟩
              rw [show ((i + 1 : Nat) : Int) - 1 = (i : Int) by omega]
              obtain ⟨bf, off, rfl, hcell⟩ := Hcc.out (by omega)
              obtain ⟨F, hF⟩ : ∃ F, F = free.getD i 0 := ⟨_, rfl⟩
              have hFD : F < D.length := by rw [hF]; exact free_at Hb.out (by omega)
              have hof := HO1.out.fn
              rw [HlD.out] at hof
              obtain ⟨g, rfl, hg1, hg2, _⟩ := hof.at_ (by omega)
              have e1 := hof.cell hFD
              have e2 := hof.frozen F
              obtain ⟨y, e1⟩ : ∃ y, wr.cell? ⟨g, F, none⟩ = some y := ⟨_, e1⟩
              obtain ⟨b0, b1, b2, b3, bf', bz'⟩ := blk4 (HF.out.blk ZB3.out (by omega))
              obtain ⟨x0, x1, x2, x3, xf, xz⟩ := blk4 (HF.out.blk ZX.out (by omega))
              have c1 : wr.cell? ⟨bf, off + i, none⟩ = some (.int .i64 (F : Int)) := by
                have hcl := hcell i (by omega)
                unfold iv at hcl
                rw [nats_getD free (by omega), ← hF] at hcl
                have hlt1 := World.block_lt_of_cell? w _ hcl
                have hbw : Below w.heap.size w wr := Hbl.out.trans ((hbl.mono Hbl.out.size).trans ((HB3.out.mono (Nat.le_trans Hbl.out.size hbl.size)).trans (HF.out.below (by have := Hbl.out.size; have := hbl.size; have := HB3.out.size; omega) (by have := Hbl.out.size; have := hbl.size; have := HB3.out.size; omega))))
                rw [hbw.cell hlt1]; exact hcl
              have i1 : (0 : Int) ≤ (i : Int) := by omega
              have i2 : (i : Int) < (free.length : Int) := by omega
              have i3 : (0 : Int) ≤ (F : Int) := by omega
              have i4 : (F : Int) < (D.length : Int) := by omega
              have hp0 : ¬ p = 0 := by omega
              have hp1 : ¬ (p : Int) = 0 := by omega
              have HFv := Lib.hid hF
              obtain ⟨r1, hr1⟩ : ∃ x, x = r % p := ⟨_, rfl⟩
              obtain ⟨r2, hr2⟩ : ∃ x, x = r / p := ⟨_, rfl⟩
              have h1 := Lib.hid (show (r : Int) % (p : Int) = (r1 : Int) by rw [hr1]; rfl)
              have h1' := Lib.hid (show (r : Int).tmod (p : Int) = (r1 : Int) by rw [Int.tmod_eq_emod_of_nonneg (by omega)]; exact h1.out)
              have h2' := Lib.hid (show (r : Int) / (p : Int) = (r2 : Int) by rw [hr2]; rfl)
              have h3' := Lib.hid (show (r : Int).tdiv (p : Int) = (r2 : Int) by rw [Int.tdiv_eq_ediv_of_nonneg (by omega)]; exact h2'.out)
              have hr2k : r2 ≤ k := by rw [hr2]; exact Nat.le_trans (Nat.div_le_self _ _) hr
              have Hr1 := Lib.hid hr1
              have Hr2 := Lib.hid hr2
              clear hF hof hcell hr1 hr2
              go_wp2_with fail
              have f1 := h1.out
              have f2 := h1'.out
              go_still_tail 11, (by kernel_rfl)
              change wpList _ _ _ _ _ wr.drew
              clear f1 f2
              have f1 := h2'.out
              have f2 := h3'.out
              go_wp2_with fail
              clear f1 f2 b0 b1 b2 b3 bf' bz' x0 x1 x2 x3 xf xz e1 e2 c1
              go_roundg (i + 1)
              case measure => omega
              case rel =>
                refine ⟨i, r2, D'.set F (r1 : Int), by omega, rfl, rfl, rfl, hr2k, (HF.out.drewN 1).setCell hg1 hg2 _, OwnI.setI (Own.drewN HO1.out 1) (by rw [HlD.out]; exact hFD) _, ?_⟩
                show fillSt p D free k (free.length - i) = _
                rw [show free.length - i = (free.length - (i + 1)) + 1 by omega]
                unfold fillSt
                rw [Hst.out, show free.length - 1 - (free.length - (i + 1)) = i by omega, ← HFv.out, ← Hr1.out, ← Hr2.out]
        · obtain rfl : k = X := by omega
          have hkl2 : ¬ (k : Int) < (k : Int) := by omega
          obtain ⟨pv, kv, rfl, _, _⟩ := hO.out.shape
          go_wp2_with fail
          go_ret2
          exact ⟨_, rfl, hO.out.mono (by rw [Hsz.out]; omega) (Nat.le_refl _), Hbl.out.trans (hbl.mono Hbl.out.size)⟩

end Go.Proofs.Ytoodgbflaaabmaa

namespace Go.Proofs.Ytoodgbflaaabmaa
set_option linter.all false
open Go.RowKit

set_option maxRecDepth 100000 in
set_option maxHeartbeats 1000000 in
theorem index_any (v : Value) (xs : List Int) (x : Int) (w : World) (h : Ints w v xs) :
    Calls Try.prog 67 #[v, .int .i64 x] w fun e w' => ∃ r : Int, e = .returned (.int .i64 r) ∧ (0 ≤ r ↔ x ∈ xs) ∧ -1 ≤ r ∧ Qt w w' := by
  obtain ⟨p, cap, rfl, ⟨hx1, hx⟩, hxc⟩ := h
  unfold maxLen at hx
  go_enter Try.func67, Try.ntmps67
  go_wp2
  go_loopg [8] xs.length (fun g i wr => ∃ k : Nat, k ≤ xs.length ∧ g = xs.length - k ∧ i = .int .i64 k ∧ Qt w wr ∧ Hid (x ∉ xs.take k))
  case atStart => exact ⟨0, Nat.zero_le _, rfl, rfl, Qt.refl _, by simp [Hid]⟩
  case round =>
    obtain ⟨k, hk, rfl, rfl, hq, hp⟩ := hrel
    by_cases hlt : k < xs.length
    · obtain ⟨b, off, rfl, hc⟩ := hxc (by omega)
      have c1 := hq.cell (hc k hlt)
      unfold iv at c1
      have hm := getD_mem hlt
      generalize hy : xs.getD k 0 = y at c1 hm
      have Hy := Lib.hid hy
      have Hm := Lib.hid hm
      clear hxc hc hy hm
      by_cases e : x = y
      · subst e
        go_wp2
        go_ret
        exact ⟨k, rfl, ⟨fun _ => Hm.out, fun _ => by omega⟩, by omega, hq⟩
      · have he : (x == y) = false := by simp [e]
        go_wp2
        go_roundg (xs.length - (k + 1))
        case measure => omega
        case rel =>
          refine ⟨k + 1, by omega, rfl, by go_num, hq, ?_⟩
          unfold Hid
          rw [List.take_add_one, List.getElem?_eq_getElem hlt]
          have h2 := Hy.out
          have h3 := hp.out
          simp only [Option.toList, List.mem_append, List.mem_singleton, not_or]
          exact ⟨h3, by rw [List.getD_eq_getElem?_getD, List.getElem?_eq_getElem hlt, Option.getD_some] at h2; rw [h2]; exact e⟩
    · go_wp2
      go_ret
      obtain rfl : k = xs.length := by omega
      have h3 := hp.out
      rw [List.take_length] at h3
      exact ⟨-1, rfl, ⟨fun h => absurd h (by decide), fun h => absurd h h3⟩, by omega, hq⟩

theorem contains_any (v : Value) (xs : List Int) (x : Int) (w : World) (h : Ints w v xs) :
    Calls Try.prog 36 #[v, .int .i64 x] w fun e w' => e = .returned (.bool (decide (x ∈ xs))) ∧ Qt w w' := by
  have Hh := Lib.hid h
  obtain ⟨p, cap, rfl, _⟩ := h
  go_enter Try.func36, Try.ntmps36
  go_wp2_with fail
  refine (index_any _ xs x _ Hh.out).mono ?_
  rintro e w1 ⟨r, rfl, hr, hr1, hq⟩
  have Hr := Lib.hid hr
  clear hr
  go_wp2_with fail
  go_ret
  exact ⟨ret_bool (by rw [decide_eq_decide]; exact Hr.out), hq⟩

end Go.Proofs.Ytoodgbflaaabmaa

namespace Go.Proofs.Ytoodgbflaaabmaa
set_option linter.all false
open Go.RowKit

theorem flat_lt3 {n C i c : Nat} (hi : i < n) (hc : c < C) : i * C + c < n * C := by
  have : (i + 1) * C ≤ n * C := Nat.mul_le_mul_right C hi
  rw [Nat.succ_mul] at this
  omega
/-- the first numbers of a list, as a slice -/
theorem ints_takeP {w : World} {p : Option Addr} {cap : Nat} {xs : List Int} (h : Ints w (.slice p xs.length cap) xs) {i : Nat} (hi : i ≤ xs.length) : Ints w (.slice p i cap) (xs.take i) := by
  obtain ⟨q, c, e, ⟨h1, h2⟩, h3⟩ := h
  injection e with e1 e2 e3
  subst e1 e3
  have hl : (xs.take i).length = i := by rw [List.length_take]; omega
  refine ⟨p, cap, by rw [hl], ⟨by omega, h2⟩, fun h0 => ?_⟩
  obtain ⟨b, off, hp, hx⟩ := h3 (by omega)
  refine ⟨b, off, hp, fun j hj => ?_⟩
  rw [hx j (by omega)]
  unfold iv
  rw [List.getD_eq_getElem?_getD, List.getD_eq_getElem?_getD, List.getElem?_take_of_lt (by omega)]

/-- the free places of row i, up to column j -/
def flG (xs : List Int) (i j : Nat) : List Nat := ((List.range j).filter fun (c : Nat) => decide (xs.getD i 0 < (c : Int)) && !decide ((c : Int) ∈ xs.take i)).map fun (c : Nat) => i * xs.length + c
def flF (xs : List Int) (i : Nat) : List Nat := (List.range i).flatMap fun r => flG xs r xs.length
theorem flG_start (xs : List Int) (i m : Nat) (h : xs.getD i 0 = (m : Int)) : flG xs i (m + 1) = [] := by
  unfold flG
  rw [List.filter_eq_nil_iff.2 ?_]; rfl
  intro c hc
  have := List.mem_range.1 hc
  rw [h]
  simp; intro h2; omega
theorem flG_no (xs : List Int) (i j : Nat) (h2 : (j : Int) ∈ xs.take i) : flG xs i (j + 1) = flG xs i j := by
  unfold flG; rw [List.range_succ, List.filter_append]; simp [h2]
theorem flG_yes (xs : List Int) (i j : Nat) (h : xs.getD i 0 < (j : Int)) (h2 : ¬ (j : Int) ∈ xs.take i) : flG xs i (j + 1) = flG xs i j ++ [i * xs.length + j] := by
  unfold flG; rw [List.range_succ, List.filter_append]
  have e : List.filter (fun (c : Nat) => decide (xs.getD i 0 < (c : Int)) && !decide ((c : Int) ∈ xs.take i)) [j] = [j] := by
    rw [List.filter_cons, if_pos (by rw [decide_eq_true h, decide_eq_false h2]; rfl)]; rfl
  rw [e]; simp
theorem flG_len (xs : List Int) (i j : Nat) : (flG xs i j).length ≤ j := by
  unfold flG
  rw [List.length_map]
  exact Nat.le_trans (List.length_filter_le _ _) (by simp)
theorem flF_succ (xs : List Int) (i : Nat) : flF xs (i + 1) = flF xs i ++ flG xs i xs.length := flatMap_snoc _ _
theorem flF_len (xs : List Int) (h7 : xs.length ≤ 7) (i : Nat) : (flF xs i).length ≤ i * 7 := flatMap_len _ 7 (fun r => Nat.le_trans (flG_len xs r xs.length) h7) i
theorem flG_mem {xs : List Int} {i j t : Nat} (hi : i < xs.length) (hj : j ≤ xs.length) (h : t ∈ flG xs i j) : t < xs.length * xs.length := by
  unfold flG at h
  obtain ⟨c, hc, rfl⟩ := List.mem_map.1 h
  have := List.mem_range.1 (List.mem_filter.1 hc).1
  exact flat_lt3 hi (by omega)
theorem flF_mem {xs : List Int} {t : Nat} (h : t ∈ flF xs xs.length) : t < xs.length * xs.length := by
  unfold flF at h
  obtain ⟨r, hr, ht⟩ := List.mem_flatMap.1 h
  exact flG_mem (List.mem_range.1 hr) (Nat.le_refl _) ht

/-- matrices and a bool, as a call returns them -/
def RetMsB (w : World) (r : List Mx × Bool) (e : Ending) (w' : World) : Prop := ∃ v, e = .returned (.tuple #[v, .bool r.2]) ∧ OwnMs w' w.heap.size w'.heap.size v r.1 ∧ Below w.heap.size w w'
/-- all matrices with numbers at free places, if they are not too many -/
def fillB (p : Int) (R C : Int) (D : List Int) (free : List Nat) : List Mx × Bool := if p.toNat ^ free.length ≤ 400 then (fillMs p.toNat R C D free (p.toNat ^ free.length), true) else ([], false)
def flMs (p : Int) (xs : List Int) : List Mx × Bool := if primeOk p && permOk xs then fillB p xs.length xs.length (permRows xs).flatten (flF xs xs.length) else ([], false)
theorem flMs_no {p : Int} {xs : List Int} (h : primeOk p = false ∨ permOk xs = false) : flMs p xs = ([], false) := by
  unfold flMs; rcases h with h | h <;> simp [h]
theorem flMs_yes {p : Int} {xs : List Int} (h : primeOk p = true) (h2 : permOk xs = true) : flMs p xs = fillB p xs.length xs.length (permRows xs).flatten (flF xs xs.length) := by
  unfold flMs; simp [h, h2]
theorem preM_bound (ms : List Mx) (h : ∀ m ∈ ms, m.D.length ≤ 49) : preM ms ms.length ≤ ms.length * 52 := by
  unfold preM
  rw [List.take_of_length_le (Nat.le_refl _)]
  induction ms with
  | nil => simp
  | cons m ms ih =>
    have h1 := h m (List.mem_cons_self)
    have h2 := ih fun x hx => h x (List.mem_cons_of_mem _ hx)
    simp only [List.map_cons, List.sum_cons, List.length_cons]
    omega
theorem fillB_len (p R C : Int) (D : List Int) (free : List Nat) (hD : D.length ≤ 49) : preM (fillB p R C D free).1 (fillB p R C D free).1.length ≤ 1000000 := by
  unfold fillB
  split
  · rename_i h
    have h1 := preM_bound (fillMs p.toNat R C D free (p.toNat ^ free.length)) fun m hm => by
      obtain ⟨x, _, rfl⟩ := List.mem_map.1 hm
      show (fillSt p.toNat D free x free.length).1.length ≤ 49
      rw [fillSt_length]; exact hD
    dsimp only
    rw [fillMs_length] at h1 ⊢
    omega
  · simp [preM]
theorem flMs_len (p : Int) (xs : List Int) : preM (flMs p xs).1 (flMs p xs).1.length ≤ 1000000 := by
  unfold flMs
  split
  · rename_i h
    simp only [Bool.and_eq_true] at h
    obtain ⟨_, h7, _⟩ := of_decide_eq_true h.2
    exact fillB_len _ _ _ _ _ (by rw [permRows_flat_length]; exact Nat.mul_le_mul h7 h7)
  · simp [preM]
theorem matricesWith_any (p : Int) (R C : Int) (d fr : Value) (D : List Int) (free : List Nat) (w : World) (hp : primeOk p = true) (hd : Ints w d D) (hf : Ints w fr (nats free)) (hb : ∀ t ∈ free, t < D.length) (hD : D.length ≤ 49) (hl : free.length ≤ 49) :
    Calls Try.prog 37 #[.agg #[.int .i64 p, .int .i64 R, .int .i64 C, d], fr] w (RetMsB w (fillB p R C D free)) := by
  obtain ⟨h2, h7⟩ := primeOk_range hp
  obtain ⟨q, rfl⟩ := Int.eq_ofNat_of_zero_le (show 0 ≤ p by omega)
  unfold fillB
  rw [Int.toNat_natCast]
  by_cases h : q ^ free.length ≤ 400
  · rw [if_pos h]
    exact (matricesWith_yes q R C d fr D free w hd hf (by omega) (by omega) hb hD hl h).mono fun e w' ⟨v, h1, h2, h3⟩ => ⟨v, h1, h2, h3⟩
  · rw [if_neg h]
    exact (matricesWith_no q R C d fr D free w hf (by omega) (by omega) hl (by omega)).mono fun e w' ⟨h1, h2⟩ => ⟨_, h1, OwnMs.nil _ _ _, h2⟩

set_option maxRecDepth 100000 in
set_option maxHeartbeats 4000000 in
theorem implFlagsWith_any (p : Int) (v : Value) (xs : List Int) (w : World) (h : Ints w v xs) :
    Calls Try.prog 10 #[.int .i64 p, v] w (RetMsB w (flMs p xs)) := by
  have Hh := Lib.hid h
  cases hp : primeOk p with
  | false =>
    rw [flMs_no (.inl hp)]
    have Hp := Lib.hid hp
    clear hp h
    go_enter Try.func10, Try.ntmps10
    go_wp2_with (go_at_call 34; refine (isPrime_b _ _ Hp.out _).mono ?_; rintro e w' ⟨rfl, rfl⟩)
    go_ret2
    exact ⟨_, rfl, OwnMs.nil _ _ _, Below.refl _ _⟩
  | true =>
    have Hp := Lib.hid hp
    obtain ⟨hp2, hp7⟩ := primeOk_range hp
    obtain ⟨pn, rfl⟩ := Int.eq_ofNat_of_zero_le (show 0 ≤ p by omega)
    cases hx : permOk xs with
    | false =>
      rw [flMs_no (.inr hx)]
      have Hx := Lib.hid hx
      clear hp hx h
      go_enter Try.func10, Try.ntmps10
      go_wp2_with (first
        | (go_at_call 34; refine (isPrime_b _ _ Hp.out _).mono ?_; rintro e w' ⟨rfl, rfl⟩)
        | (go_at_call 35; refine (implIsPerm_b _ xs _ Hx.out _ Hh.out).mono ?_; rintro e w1 ⟨rfl, hb⟩))
      go_ret2
      exact ⟨_, rfl, OwnMs.nil _ _ _, hb⟩
    | true =>
      rw [flMs_yes hp hx]
      have Hx := Lib.hid hx
      obtain ⟨hl1, hl7, hr, _⟩ := of_decide_eq_true hx
      have Hr := Lib.hid hr
      obtain ⟨q, cap, rfl, ⟨hx1, hx2⟩, hxc⟩ := h
      have Hxc := Lib.hid hxc
      unfold maxLen at hx2
      clear hp hx hr hxc
      go_enter Try.func10, Try.ntmps10
      go_wp2_with (first
        | (go_at_call 34; refine (isPrime_b _ _ Hp.out _).mono ?_; rintro e w' ⟨rfl, rfl⟩)
        | (go_at_call 35; refine (implIsPerm_b _ xs _ Hx.out _ Hh.out).mono ?_; rintro e w1 ⟨rfl, hb⟩))
      have Hb := Lib.hid hb
      have hsw := hb.size
      obtain ⟨b0, off, rfl, hc0⟩ := Hxc.out (by omega)
      have Hc0 := Lib.hid hc0
      clear hb hc0 Hxc
      go_loopg [6, 21] xs.length (fun gg s6 s21 wr => ∃ i : Nat, i ≤ xs.length ∧ gg = xs.length - i ∧ s21 = .int .i64 i ∧ Below w1.heap.size w1 wr ∧ Hid (OwnI 3 wr w1.heap.size wr.heap.size s6 (nats (flF xs i))))
      case atStart => exact ⟨0, Nat.zero_le _, rfl, rfl, below_alloc _ _, (OwnF.made0 w1 3 (iv [])).ints.mono (Nat.le_refl _) (by simp)⟩
      case round =>
        obtain ⟨i, hi, rfl, rfl, hbl, hO⟩ := hrel
        obtain ⟨wo, rfl⟩ : ∃ x : World, x = wr := ⟨_, rfl⟩
        have HO := Lib.hid hO.out
        clear hO
        by_cases hlt : i < xs.length
        · have hlt2 : (i : Int) < (xs.length : Int) := by omega
          have hlt3 : (0 : Int) ≤ (i : Int) := by omega
          have hx0 := Hr.out _ (getD_mem hlt)
          obtain ⟨m, hm⟩ := Int.eq_ofNat_of_zero_le hx0.1
          have hml : m < xs.length := by omega
          have c1 : wo.cell? ⟨b0, off + i, none⟩ = some (.int .i64 (m : Int)) := by
            have h5 := Hc0.out i hlt
            rw [(Hb.out.trans (hbl.mono hsw)).cell (p := ⟨b0, off + i, none⟩) (World.block_lt_of_cell? _ _ h5), h5]; simp only [iv, hm]
          have Hm := Lib.hid hm
          have HG0 := Lib.hid (flG_start xs i m hm)
          clear hx0 hm
          go_wp2_with fail
          clear c1
          go_loopg [6, 9] (xs.length - (m + 1)) (fun gg s6 s9 wr => ∃ j : Nat, m < j ∧ j ≤ xs.length ∧ gg = xs.length - j ∧ s9 = .int .i64 (j : Int) ∧ Below w1.heap.size w1 wr ∧ Hid (OwnI 3 wr w1.heap.size wr.heap.size s6 (nats (flF xs i ++ flG xs i j))))
          case atStart => exact ⟨m + 1, by omega, by omega, rfl, rfl, hbl, by show OwnI _ _ _ _ _ _; rw [HG0.out, List.append_nil]; exact HO.out⟩
          case round =>
            obtain ⟨j, hmj, hj, rfl, rfl, hbi, hO⟩ := hrel
            have HO := Lib.hid hO.out
            clear hO
            by_cases hjl : j < xs.length
            · have hjl2 : (j : Int) < (xs.length : Int) := by omega
              have hI : Ints wr (.slice (some ⟨b0, off, none⟩) i cap) (xs.take i) := ints_takeP (Hh.out.below (Hb.out.trans (hbi.mono hsw))) (by omega)
              have HI := Lib.hid hI
              have hcap : (i : Int) ≤ (cap : Int) := by omega
              clear hI
              cases hd : decide ((j : Int) ∈ xs.take i) with
              | true =>
                have HGn := Lib.hid (flG_no xs i j (of_decide_eq_true hd))
                have Hd := Lib.hid hd
                clear hd
                go_wp2_with fail
                refine (contains_any _ (xs.take i) (j : Int) _ HI.out).mono ?_
                rintro e w2 ⟨rfl, hq⟩
                rw [Hd.out]
                have hb2 := hq.below wr.heap.size
                clear hq
                go_wp2_with fail
                go_roundg (xs.length - (j + 1))
                case measure => omega
                case rel =>
                  refine ⟨j + 1, by omega, by omega, rfl, by go_num, hbi.trans (hb2.mono hbi.size), ?_⟩
                  show OwnI _ _ _ _ _ _
                  rw [HGn.out]
                  exact (HO.out.below hb2).mono (Nat.le_refl _) hb2.size
              | false =>
                have HGy := Lib.hid (flG_yes xs i j (by rw [Hm.out]; exact Int.ofNat_lt.2 hmj) (of_decide_eq_false hd))
                have Hd := Lib.hid hd
                clear hd
                go_wp2_with fail
                refine (contains_any _ (xs.take i) (j : Int) _ HI.out).mono ?_
                rintro e w2 ⟨rfl, hq⟩
                rw [Hd.out]
                have hb2 := hq.below wr.heap.size
                have hs2 := hq.size
                clear hq
                have hnn : i * xs.length ≤ 7 * 7 := Nat.mul_le_mul (by omega) hl7
                have hFl := flF_len xs hl7 i
                have hGl := flG_len xs i j
                have hLl : (flF xs i ++ flG xs i j).length ≤ 60 := by rw [List.length_append]; omega
                obtain ⟨L, hL⟩ : ∃ L, L = flF xs i ++ flG xs i j := ⟨_, rfl⟩
                obtain ⟨K, hK, H3, H4⟩ := mul_hid i xs.length (by omega)
                have hKl : K ≤ 49 := by omega
                have Hol := HO.out.below hb2
                rw [← hL] at Hol hLl
                have HL := Lib.hid hL
                have HK := Lib.hid hK
                have hol := Lib.hid Hol
                have Hl1 := Lib.hid (show (nats L).length + 1 ≤ maxLen by rw [nats_length]; unfold maxLen; omega)
                have Hl2 := Lib.hid (show ((nats L).length + 1) * 8 ≤ 140737488355328 by rw [nats_length]; omega)
                have Hbb := Lib.hid (hbi.trans (hb2.mono hbi.size))
                clear hK hnn hFl hGl hLl hL Hol
                have Hk1 := Lib.hid (show wrap64 ((K : Int) + (j : Int)) = (K : Int) + (j : Int) from w64 (by omega) (by omega))
                have Hk2 := Lib.hid (show IntKind.i64.wrap ((K : Int) + (j : Int)) = (K : Int) + (j : Int) from k64 (by omega) (by omega))
                have Hs1 := Lib.hid (show w1.heap.size ≤ (w2.alloc (.cells #[.int .i64 ((K : Int) + (j : Int))] 3)).heap.size by have := Hbb.out.size; rw [size_alloc]; omega)
                have Hs2 := Lib.hid (show wr.heap.size ≤ (w2.alloc (.cells #[.int .i64 ((K : Int) + (j : Int))] 3)).heap.size by rw [size_alloc]; omega)
                have h3 := H3.out
                have h4 := H4.out
                have h5 := Hk1.out
                have h6 := Hk2.out
                go_wp2_with (at_builtin; go_must (refine wpList_append_F rfl (.tmp 40) (.tmp 47) 24 rfl 3 (.int .i64 0) 8 Try.underlying24 info_int rfl w1.heap.size wr.heap.size _ (nats L).length _ rfl (hol.out.fn.below (below_alloc _ _)) Hs1.out Hs2.out _ _ _ rfl (rd_one _ _ _ hs2.symm) (fun j _ => rfl) Hl1.out Hl2.out ?_; clear h3 h4 h5 h6; intro v' w' ho' hg'))
                have hol2 := OwnI.snoc1 ho'
                have hgb := grownBy_below hg' (OwnF.blocks hol.out.fn) (Nat.le_refl _) Hs1.out
                have hsz := hg'.size
                simp only [size_alloc] at hsz
                go_roundg (xs.length - (j + 1))
                case measure => omega
                case rel =>
                  refine ⟨j + 1, by omega, by omega, rfl, by go_num, (Hbb.out.trans ((below_alloc _ _).mono Hbb.out.size)).trans hgb, ?_⟩
                  show OwnI _ _ _ _ _ _
                  rw [HGy.out, ← List.append_assoc, ← HL.out, nats_snoc, ← HK.out]
                  exact hol2
            · obtain rfl : j = xs.length := by omega
              have hjl2 : ¬ (xs.length : Int) < (xs.length : Int) := by omega
              go_wp2_with fail
              go_roundg (xs.length - (i + 1))
              case measure => omega
              case rel => exact ⟨i + 1, by omega, rfl, by go_num, hbi, by show OwnI _ _ _ _ _ _; rw [flF_succ]; exact HO.out⟩
        · obtain rfl : i = xs.length := by omega
          have hlt2 : ¬ (xs.length : Int) < (xs.length : Int) := by omega
          have hFl := flF_len xs hl7 xs.length
          have hFl2 : (flF xs xs.length).length ≤ 49 := by omega
          have hDl : (permRows xs).flatten.length = xs.length * xs.length := permRows_flat_length xs
          have hD49 : (permRows xs).flatten.length ≤ 49 := by rw [hDl]; exact Nat.mul_le_mul hl7 hl7
          have HD49 := Lib.hid hD49
          have Hmem := Lib.hid (show ∀ t ∈ flF xs xs.length, t < (permRows xs).flatten.length by intro t ht; rw [hDl]; exact flF_mem ht)
          have HI := Lib.hid (Hh.out.below (Hb.out.trans (hbl.mono hsw)))
          have Hpm := Lib.hid (permMx_yes Hp.out Hx.out)
          have Hbl := Lib.hid (Hb.out.trans (hbl.mono hsw))
          have HF2 := Lib.hid hFl2
          obtain ⟨D, hD⟩ : ∃ D, D = (permRows xs).flatten := ⟨_, rfl⟩
          obtain ⟨L, hL⟩ : ∃ L, L = flF xs xs.length := ⟨_, rfl⟩
          rw [← hD] at HD49 Hmem Hpm
          rw [← hL] at HF2 Hmem HO
          have HDe := Lib.hid hD
          have HLe := Lib.hid hL
          obtain ⟨pv, kv, rfl, _, _⟩ := HO.out.shape
          rw [nats_length] at HO ⊢
          clear hDl hD49 hFl hFl2 hD hL
          go_wp2_with fail

          refine (implPermMatrix_any (pn : Int) _ xs _ HI.out).mono ?_
          rw [Hpm.out]
          rintro e w2 ⟨u, rfl, ho, hb2⟩
          dsimp only at ho ⊢
          have Hoi := Lib.hid ho.ints
          obtain ⟨pd, kd, rfl, _, _⟩ := ho.shape
          have HO2 := Lib.hid (HO.out.below hb2)
          have Hb2 := Lib.hid hb2
          clear ho hb2
          go_wp2_with fail
          refine (matricesWith_any (pn : Int) _ _ _ _ _ L _ Hp.out Hoi.out HO2.out.ints Hmem.out HD49.out HF2.out).mono ?_
          rintro e w3 ⟨vr, rfl, hv, hb3⟩
          have hs1 := Hbl.out.size
          have hs2 := Hb2.out.size
          obtain ⟨pr, kr, rfl, _, _⟩ := hv.shape
          have Hv := Lib.hid hv
          clear hv
          go_wp2_with fail
          go_ret2
          have e1 := HDe.out
          have e2 := HLe.out
          subst e1 e2
          exact ⟨_, rfl, Hv.out.mono (by omega) (Nat.le_refl _), (Hbl.out.trans (Hb2.out.mono hs1)).trans (hb3.mono (by omega))⟩

end Go.Proofs.Ytoodgbflaaabmaa
