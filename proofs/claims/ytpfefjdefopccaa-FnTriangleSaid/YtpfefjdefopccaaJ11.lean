/-
  The position of two flags: a permutation, the inverse one the other way round, the same when both are moved: plain.
  The inverse permutation, on both sides.
  The code and the length of a permutation, in the program.
  NormalFlag, FlagPerm, RelativePosition, PermMatrix, FlagOk of flags, as the laws use them.
  The law FnRelative, on lists: plain.
  The reference's l8Perms and AllPerms.
  The plain law of AllPerms: the program's list of permutations is the reference's.
  Values at fixed points: the numbers for them, and what IsGkm asks. Plain.
-/
import Derived.Test.YtpfefjdefopccaaJ10
import Derived.Test.YtpfefjdefopccaaJ2
import Derived.Test.YtpfefjdefopccaaJ7
import Derived.Test.YtpfefjdefopccaaJ4
namespace Go.Proofs.Ytpfefjdefopccaa
set_option linter.all false
open Go.RowKit

/-! ### arrays of numbers with steps -/
/-- the ranks of two flags' members, put together -/
structure Rk (n : Nat) (r : Nat → Nat → Nat) : Prop where
  left : ∀ i, i ≤ n → r i 0 = i
  top : ∀ j, j ≤ n → r 0 j = j
  right : ∀ i, i ≤ n → r i n = n
  bot : ∀ j, j ≤ n → r n j = n
  stepI : ∀ i j, i < n → j ≤ n → r (i + 1) j = r i j ∨ r (i + 1) j = r i j + 1
  stepJ : ∀ i j, i ≤ n → j < n → r i (j + 1) = r i j ∨ r i (j + 1) = r i j + 1
  conv : ∀ i j, i < n → j < n → r (i + 1) j = r i j → r (i + 1) (j + 1) = r i (j + 1)
namespace Rk
variable {n : Nat} {r : Nat → Nat → Nat}
theorem convJ (h : Rk n r) : ∀ i j, i < n → j < n → r i (j + 1) = r i j → r (i + 1) (j + 1) = r (i + 1) j := fun i j hi hj e => by
  have a := h.stepI i j hi (by omega)
  have b := h.stepI i (j + 1) hi (by omega)
  have c := h.stepJ (i + 1) j (by omega) hj
  have d := h.conv i j hi hj
  omega
theorem swap (h : Rk n r) : Rk n (fun j i => r i j) :=
  ⟨h.top, h.left, h.bot, h.right, fun i j hi hj => h.stepJ j i hj hi, fun i j hi hj => h.stepI j i hj hi, fun i j hi hj => h.convJ j i hj hi⟩
/-- row i comes in at column j -/
def At (r : Nat → Nat → Nat) (i j : Nat) : Prop := r (i + 1) j = r i j + 1 ∧ r (i + 1) (j + 1) = r i (j + 1)
theorem at_ex_aux (h : Rk n r) {i : Nat} (hi : i < n) : ∀ d j, j + d = n → r (i + 1) j = r i j + 1 → ∃ k, k < n ∧ At r i k ∧ j ≤ k
  | 0, j, hj, e => by
    have h1 := h.right i (by omega)
    have h2 := h.right (i + 1) (by omega)
    rw [Nat.add_zero] at hj
    subst hj; omega
  | d + 1, j, hj, e => by
    rcases h.stepI i (j + 1) hi (by omega) with h1 | h1
    · exact ⟨j, by omega, ⟨e, h1⟩, Nat.le_refl _⟩
    · obtain ⟨k, hk, ha, hle⟩ := at_ex_aux h hi d (j + 1) (by omega) h1
      exact ⟨k, hk, ha, by omega⟩
theorem at_ex (h : Rk n r) {i : Nat} (hi : i < n) : ∃ j, j < n ∧ At r i j := by
  obtain ⟨k, hk, ha, _⟩ := h.at_ex_aux hi n 0 (by omega) (by rw [h.left (i + 1) (by omega), h.left i (by omega)])
  exact ⟨k, hk, ha⟩
theorem flat_on (h : Rk n r) {i : Nat} (hi : i < n) : ∀ d j, j + d ≤ n → r (i + 1) j = r i j → r (i + 1) (j + d) = r i (j + d)
  | 0, j, _, e => e
  | d + 1, j, hj, e => by
    have := h.conv i j hi (by omega) e
    have h2 := flat_on h hi d (j + 1) (by omega) this
    rw [show j + (d + 1) = j + 1 + d by omega]; exact h2
theorem at_one (h : Rk n r) {i j k : Nat} (hi : i < n) (hj : j < n) (hk : k < n) (h1 : At r i j) (h2 : At r i k) : j = k := by
  rcases Nat.lt_trichotomy j k with hl | hl | hl
  · have := h.flat_on hi (k - (j + 1)) (j + 1) (by omega) h1.2
    rw [show j + 1 + (k - (j + 1)) = k by omega] at this
    have := h2.1; omega
  · exact hl
  · have := h.flat_on hi (j - (k + 1)) (k + 1) (by omega) h2.2
    rw [show k + 1 + (j - (k + 1)) = j by omega] at this
    have := h1.1; omega
theorem at_before (h : Rk n r) {i j k : Nat} (hi : i < n) (hj : j < n) (ha : At r i j) (hk : k ≤ j) : r (i + 1) k = r i k + 1 := by
  rcases h.stepI i k hi (by omega) with e | e
  · have := h.flat_on hi (j - k) k (by omega) e
    rw [show k + (j - k) = j by omega] at this
    have := ha.1; omega
  · exact e
theorem at_swap (h : Rk n r) {i j : Nat} (hi : i < n) (hj : j < n) (ha : At r i j) : At (fun j i => r i j) j i := by
  have a := ha.1
  have b := ha.2
  have c := h.stepJ i j (by omega) hj
  have d := h.stepJ (i + 1) j (by omega) hj
  exact ⟨show r i (j + 1) = r i j + 1 by omega, show r (i + 1) (j + 1) = r (i + 1) j by omega⟩
theorem inj (h : Rk n r) {i i' j : Nat} (hi : i < n) (hi' : i' < n) (hj : j < n) (h1 : At r i j) (h2 : At r i' j) : i = i' :=
  h.swap.at_one hj hi hi' (h.at_swap hi hj h1) (h.at_swap hi' hj h2)
/-- rows that come in one after the other at their own places -/
theorem diag (h : Rk n r) (hd : ∀ i, i < n → At r i i) : ∀ i, i ≤ n → r i i = i
  | 0, _ => h.left 0 (by omega)
  | i + 1, hi => by
    have h1 := (hd i (by omega)).2
    have h2 := (h.at_swap (by omega) (by omega) (hd i (by omega))).1
    have h3 := diag h hd i (by omega)
    have h4 : r i (i + 1) = r i i + 1 := h2
    omega
end Rk

/-! ### flags -/
theorem HasRank.mono_of {P : Int} {C R : Nat} {M : Nat → Nat → Int} {k : Nat} (h : HasRank P C R M k) {R' : Nat} {M' : Nat → Nat → Int} (hs : SameSp P C R' M' R M) : HasRank P C R' M' k := h.same hs
theorem stack_swap (P : Int) (C : Nat) (A B : Nat → Nat → Int) (i j : Nat) : SameSp P C (j + i) (stackM j B A) (i + j) (stackM i A B) := by
  refine ⟨fun t ht => ?_, fun t ht => ?_⟩
  · by_cases h : t < j
    · rw [stackM_lt h]
      have := Sp.row (p := P) (C := C) (M := stackM i A B) (n := i + j) (i := i + t) (by omega)
      rwa [stackM_ge (by omega), show i + t - i = t by omega] at this
    · rw [stackM_ge h]
      have := Sp.row (p := P) (C := C) (M := stackM i A B) (n := i + j) (i := t - j) (by omega)
      rwa [stackM_lt (by omega)] at this
  · by_cases h : t < i
    · rw [stackM_lt h]
      have := Sp.row (p := P) (C := C) (M := stackM j B A) (n := j + i) (i := j + t) (by omega)
      rwa [stackM_ge (by omega), show j + t - j = t by omega] at this
    · rw [stackM_ge h]
      have := Sp.row (p := P) (C := C) (M := stackM j B A) (n := j + i) (i := t - i) (by omega)
      rwa [stackM_lt (by omega)] at this

/-- what is asked of the rows of a flag -/
structure FlM (P : Int) (n : Nat) (A : Nat → Nat → Int) : Prop where
  pr : primeOk P = true
  rng : ∀ t c, 0 ≤ A t c ∧ A t c < P
  rk : HasRank P n n A n
theorem FlM.part {P : Int} {n : Nat} {A : Nat → Nat → Int} (h : FlM P n A) {i : Nat} (hi : i ≤ n) : HasRank P n i A i := h.rk.part h.pr (fun i j _ _ => h.rng i j) hi
theorem IsFl.flM {P : Int} {n : Nat} {D : List Int} (h : IsFl P n n D) : FlM P n (mf n fun t => D.getD t 0) := by
  obtain ⟨m, _, e, _, _, hlD, hD, hP, _, hp, hrk⟩ := h.facts
  obtain rfl := Int.ofNat.inj e
  exact ⟨hp, fun t c => getD_range hD (by omega) _, hrk⟩
/-- the ranks -/
def RkF (P : Int) (n : Nat) (A B : Nat → Nat → Int) (r : Nat → Nat → Nat) : Prop := ∀ i j, i ≤ n → j ≤ n → HasRank P n (i + j) (stackM i A B) (r i j)
theorem rkF_ex {P : Int} {n : Nat} {A B : Nat → Nat → Int} (ha : FlM P n A) (hb : FlM P n B) : ∃ r, RkF P n A B r := by
  have : ∀ i j, ∃ k, HasRank P n (i + j) (stackM i A B) k := fun i j => by
    obtain ⟨f, _, h, _⟩ := ranks_ex ha.pr (i + j) (stackM_rng (fun t c _ _ => ha.rng t c) fun t c _ _ => hb.rng t c)
    exact ⟨f (i + j), h _ (Nat.le_refl _)⟩
  exact ⟨fun i j => Classical.choose (this i j), fun i j _ _ => Classical.choose_spec (this i j)⟩
theorem RkF.swap {P : Int} {n : Nat} {A B : Nat → Nat → Int} {r : Nat → Nat → Nat} (h : RkF P n A B r) : RkF P n B A (fun j i => r i j) := fun j i hj hi => (h i j hi hj).same (stack_swap P n A B i j)
theorem RkF.stepI {P : Int} {n : Nat} {A B : Nat → Nat → Int} {r : Nat → Nat → Nat} (ha : FlM P n A) (h : RkF P n A B r) : ∀ i j, i < n → j ≤ n → r (i + 1) j = r i j ∨ r (i + 1) j = r i j + 1 := fun i j hi hj =>
  stack_step ha.pr (fun c _ => ha.rng i c) (h i j (by omega) hj) (h (i + 1) j (by omega) hj)
/-- a row that lies in what is spanned already -/
theorem RkF.in_span {P : Int} {n : Nat} {A B : Nat → Nat → Int} {r : Nat → Nat → Nat} (hP : 2 ≤ P) (h : RkF P n A B r) {i j : Nat} (hi : i < n) (hj : j ≤ n) (e : r (i + 1) j = r i j) : Sp P n (i + j) (stackM i A B) (A i) := by
  have h1 := h (i + 1) j (by omega) hj
  rw [e] at h1
  have hs : SameSp P n (i + j) (stackM i A B) (i + 1 + j) (stackM (i + 1) A B) := HasRank.same_of_sub hP h1 (h i j (by omega) hj) fun t ht => by
    by_cases h2 : t < i
    · have := Sp.row (p := P) (C := n) (M := stackM (i + 1) A B) (n := i + 1 + j) (i := t) (by omega)
      rw [stackM_lt (by omega)] at this
      rw [stackM_lt h2]; exact this
    · have := Sp.row (p := P) (C := n) (M := stackM (i + 1) A B) (n := i + 1 + j) (i := t + 1) (by omega)
      rw [stackM_ge (by omega), show t + 1 - (i + 1) = t - i by omega] at this
      rw [stackM_ge h2]; exact this
  have := hs.2 i (by omega)
  rwa [stackM_lt (by omega)] at this
theorem RkF.conv {P : Int} {n : Nat} {A B : Nat → Nat → Int} {r : Nat → Nat → Nat} (hP : 2 ≤ P) (h : RkF P n A B r) : ∀ i j, i < n → j < n → r (i + 1) j = r i j → r (i + 1) (j + 1) = r i (j + 1) := fun i j hi hj e => by
  have h1 := h.in_span hP hi (by omega) e
  have hsub : Sp P n (i + (j + 1)) (stackM i A B) (A i) := h1.mono (by omega)
  have hs : SameSp P n (i + 1 + (j + 1)) (stackM (i + 1) A B) (i + (j + 1)) (stackM i A B) := by
    refine ⟨fun t ht => ?_, fun t ht => ?_⟩
    · by_cases h2 : t < i
      · have := Sp.row (p := P) (C := n) (M := stackM i A B) (n := i + (j + 1)) (i := t) (by omega)
        rw [stackM_lt h2] at this
        rw [stackM_lt (by omega)]; exact this
      · by_cases h3 : t = i
        · subst h3; rw [stackM_lt (by omega)]; exact hsub
        · have := Sp.row (p := P) (C := n) (M := stackM i A B) (n := i + (j + 1)) (i := t - 1) (by omega)
          rw [stackM_ge (by omega), show t - 1 - i = t - (i + 1) by omega] at this
          rw [stackM_ge (by omega)]; exact this
    · by_cases h2 : t < i
      · have := Sp.row (p := P) (C := n) (M := stackM (i + 1) A B) (n := i + 1 + (j + 1)) (i := t) (by omega)
        rw [stackM_lt (by omega)] at this
        rw [stackM_lt h2]; exact this
      · have := Sp.row (p := P) (C := n) (M := stackM (i + 1) A B) (n := i + 1 + (j + 1)) (i := t + 1) (by omega)
        rw [stackM_ge (by omega), show t + 1 - (i + 1) = t - i by omega] at this
        rw [stackM_ge h2]; exact this
  exact (h (i + 1) (j + 1) (by omega) (by omega)).one hP ((h i (j + 1) (by omega) (by omega)).same hs)
theorem RkF.top {P : Int} {n : Nat} {A B : Nat → Nat → Int} {r : Nat → Nat → Nat} (hb : FlM P n B) (h : RkF P n A B r) : ∀ j, j ≤ n → r 0 j = j := fun j hj => by
  have h1 := h 0 j (by omega) hj
  rw [Nat.zero_add] at h1
  exact h1.one (primeOk_range hb.pr).1 ((hb.part hj).congr fun t c _ _ => by rw [stackM_ge (Nat.not_lt_zero _)]; rfl)
theorem RkF.right {P : Int} {n : Nat} {A B : Nat → Nat → Int} {r : Nat → Nat → Nat} (ha : FlM P n A) (hb : FlM P n B) (h : RkF P n A B r) : ∀ i, i ≤ n → r i n = n := fun i hi => by
  have h1 := h i n hi (Nat.le_refl _)
  have h2 := HasRank.stackB ha.pr (fun t c _ => ha.rng t c) (fun t c _ => hb.rng t c) hb.rk i _ h1
  have h3 := h1.leC
  omega
theorem RkF.rk {P : Int} {n : Nat} {A B : Nat → Nat → Int} {r : Nat → Nat → Nat} (ha : FlM P n A) (hb : FlM P n B) (h : RkF P n A B r) : Rk n r :=
  ⟨h.swap.top ha, h.top hb, h.right ha hb, h.swap.right hb ha, h.stepI ha, fun i j hi hj => h.swap.stepI hb j i hj hi, h.conv (primeOk_range ha.pr).1⟩
theorem RkF.cm {P : Int} {n : Nat} {A B : Nat → Nat → Int} {r : Nat → Nat → Nat} (h : RkF P n A B r) {i j : Nat} (hi : i ≤ n) (hj : j ≤ n) : CmIs P n A i B j ((i : Int) + (j : Int) - (r i j : Int)) := ⟨_, h i j hi hj, rfl⟩
/-- where a row comes in: as the program asks it -/
theorem RkF.rpAt {P : Int} {n : Nat} {A B : Nat → Nat → Int} {r : Nat → Nat → Nat} (ha : FlM P n A) (hb : FlM P n B) (h : RkF P n A B r) {i j : Nat} (hi : i < n) (hj : j < n) (hat : Rk.At r i j) : RpAt P n A B i (j : Int) := by
  have hP := (primeOk_range ha.pr).1
  have hR := h.rk ha hb
  refine ⟨j, rfl, hj, ⟨_, _, h.cm (i := i + 1) (j := j + 1) (by omega) (by omega), h.cm (i := i) (j := j + 1) (by omega) (by omega), ?_⟩, fun k hk a b ha' hb' => ?_⟩
  · have := hat.2; omega
  · rw [ha'.one hP (h.cm (i := i + 1) (j := k + 1) (by omega) (by omega)), hb'.one hP (h.cm (i := i) (j := k + 1) (by omega) (by omega))]
    have := hR.at_before hi hj hat (k := k + 1) (by omega)
    omega

/-- the position as a function -/
theorem rel_fun {P : Int} {n : Nat} {A B : Nat → Nat → Int} (ha : FlM P n A) (hb : FlM P n B) : ∃ (p q : Nat → Nat) (r : Nat → Nat → Nat), RkF P n A B r ∧ (∀ i, i < n → p i < n ∧ Rk.At r i (p i)) ∧ (∀ j, j < n → q j < n ∧ Rk.At (fun j i => r i j) j (q j)) := by
  obtain ⟨r, h⟩ := rkF_ex ha hb
  have hR := h.rk ha hb
  have h1 : ∀ i, ∃ j, i < n → j < n ∧ Rk.At r i j := fun i => by
    by_cases hi : i < n
    · obtain ⟨j, hj, e⟩ := hR.at_ex hi
      exact ⟨j, fun _ => ⟨hj, e⟩⟩
    · exact ⟨0, fun h => absurd h hi⟩
  have h2 : ∀ j, ∃ i, j < n → i < n ∧ Rk.At (fun j i => r i j) j i := fun j => by
    by_cases hj : j < n
    · obtain ⟨i, hi, e⟩ := hR.swap.at_ex hj
      exact ⟨i, fun _ => ⟨hi, e⟩⟩
    · exact ⟨0, fun h => absurd h hj⟩
  exact ⟨fun i => Classical.choose (h1 i), fun j => Classical.choose (h2 j), r, h, fun i hi => Classical.choose_spec (h1 i) hi, fun j hj => Classical.choose_spec (h2 j) hj⟩

end Go.Proofs.Ytpfefjdefopccaa

namespace Go.Proofs.Ytpfefjdefopccaa
set_option linter.all false
open Go.RowKit

/-- where the number j stands among the first k -/
def invK (xs : List Int) : Nat → Nat → Int
  | 0, _ => 0
  | k + 1, j => if (j : Int) = xs.getD k 0 then k else invK xs k j
def invL (xs : List Int) : List Int := (List.range xs.length).map (invK xs xs.length)
theorem invL_length (xs : List Int) : (invL xs).length = xs.length := by simp [invL]
theorem invL_getD {xs : List Int} {j : Nat} (h : j < xs.length) : (invL xs).getD j 0 = invK xs xs.length j := by simp [invL, List.getD_eq_getElem?_getD, h]

set_option maxRecDepth 100000 in
set_option maxHeartbeats 2000000 in
theorem implInverse_any (v : Value) (xs : List Int) (w : World) (h : Ints w v xs) (hp : permOk xs = true) :
    Calls Try.prog 55 #[v] w (RetI w (invL xs)) := by
  have Hh := Lib.hid h
  obtain ⟨q, cap, rfl, ⟨hx1, hx⟩, hxc⟩ := h
  obtain ⟨hl1, hl7, hr, _⟩ := of_decide_eq_true hp
  have Hp := Lib.hid hp
  have Hr := Lib.hid hr
  obtain ⟨b, off, rfl, hc⟩ := hxc (by omega)
  have Hc := Lib.hid hc
  obtain ⟨N, hN⟩ : ∃ N, N = xs.length := ⟨_, rfl⟩
  have hmk := run_make_row' (P := Try.prog) 24 3 (.int .i64 0) 8 Try.underlying24 info_int rfl .i64 .i64 N (by omega) (by omega)
  rw [hN] at hmk
  clear hN
  unfold maxLen at hx
  clear hr hxc hp hc
  go_enter Try.func55, Try.ntmps55
  go_wp2_with fail
  refine (implIsPerm_any _ xs _ Hh.out).mono ?_
  rintro e w1 ⟨rfl, hq⟩
  rw [Hp.out]
  have Hc1 := Lib.hid (fun j (hj : j < xs.length) => show w1.cell? ⟨b, off + j, none⟩ = some (iv xs j) by rw [hq.cell (World.block_lt_of_cell? _ _ (Hc.out j hj))]; exact Hc.out j hj)
  have Hq := Lib.hid hq
  clear hq
  go_wp2_with fail
  go_loopg [14] xs.length (fun g s14 wr => ∃ k : Nat, k ≤ xs.length ∧ g = xs.length - k ∧ s14 = .int .i64 k ∧ Below w1.heap.size w1 wr ∧ Hid (wr.rowIs w1.heap.size 3 xs.length (fun j => .int .i64 (invK xs k j))))
  case atStart =>
    refine ⟨0, Nat.zero_le _, rfl, rfl, below_alloc _ _, ?_⟩
    exact (World.rowIs_made w1 (.int .i64 0) xs.length 3).congr fun j _ => by simp [invK]
  case round =>
    obtain ⟨k, hk, rfl, rfl, hbw, hrow⟩ := hrel
    by_cases hlt : k < xs.length
    · have hx0 := Hr.out _ (getD_mem hlt)
      obtain ⟨m, hm⟩ := Int.eq_ofNat_of_zero_le hx0.1
      have c1 : wr.cell? ⟨b, off + k, none⟩ = some (.int .i64 (m : Int)) := by
        rw [hbw.cell (p := ⟨b, off + k, none⟩) (World.block_lt_of_cell? _ _ (Hc1.out k hlt)), Hc1.out k hlt]; simp only [iv, hm]
      have hml : m < xs.length := by omega
      obtain ⟨z, c2⟩ : ∃ z, wr.cell? ⟨w1.heap.size, m, none⟩ = some (.int .i64 z) := ⟨_, hrow.out.cell hml⟩
      have c3 := hrow.out.frozen m
      have i1 : (k : Int) < (xs.length : Int) := by omega
      have i2 : (m : Int) < (xs.length : Int) := by omega
      have Hm := Lib.hid hm
      have Hrow := Lib.hid hrow.out
      clear hx0 hm hrow
      go_wp2_with fail
      go_roundg (xs.length - (k + 1))
      case measure => omega
      case rel =>
        refine ⟨k + 1, by omega, rfl, by go_num, hbw.setCell (Nat.le_refl _) _, (Hrow.out.set m _).congr fun j hj => ?_⟩
        rw [invK, Hm.out]
        by_cases e : j = m
        · subst e; simp
        · simp [e, show ¬ (j : Int) = (m : Int) by omega]
    · obtain rfl : k = xs.length := by omega
      have i1 : ¬ (xs.length : Int) < (xs.length : Int) := by omega
      have ho := rowIs_ints (xs := invL xs) (by rw [invL_length]; exact hrow.out.congr fun j hj => by rw [iv, invL_getD hj]) (by rw [invL_length]; unfold maxLen; omega)
      rw [invL_length] at ho
      have Ho := Lib.hid (ho.mono Hq.out.size (Nat.le_refl _))
      clear ho hrow
      go_wp2_with fail
      go_ret
      exact ⟨_, rfl, Ho.out, Hq.out.trans (hbw.mono Hq.out.size)⟩


end Go.Proofs.Ytpfefjdefopccaa

namespace Go.Proofs.Ytpfefjdefopccaa
set_option linter.all false
open Go.RowKit

/-- how many of the t numbers behind place i are less than the one there -/
def cdN (xs : List Int) (i t : Nat) : Nat := ((List.range t).filter fun (s : Nat) => decide (xs.getD (i + 1 + s) 0 < xs.getD i 0)).length
theorem cdN_zero (xs : List Int) (i : Nat) : cdN xs i 0 = 0 := rfl
theorem cdN_yes {xs : List Int} {i t : Nat} (h : xs.getD (i + 1 + t) 0 < xs.getD i 0) : cdN xs i (t + 1) = cdN xs i t + 1 := by
  unfold cdN
  rw [List.range_succ, List.filter_append, List.length_append]
  have e : List.filter (fun (s : Nat) => decide (xs.getD (i + 1 + s) 0 < xs.getD i 0)) [t] = [t] := by
    rw [List.filter_cons, if_pos (decide_eq_true h)]; rfl
  rw [e]; rfl
theorem cdN_no {xs : List Int} {i t : Nat} (h : ¬ xs.getD (i + 1 + t) 0 < xs.getD i 0) : cdN xs i (t + 1) = cdN xs i t := by
  unfold cdN
  rw [List.range_succ, List.filter_append, List.length_append]
  have e : List.filter (fun (s : Nat) => decide (xs.getD (i + 1 + s) 0 < xs.getD i 0)) [t] = [] := by
    rw [List.filter_cons, if_neg (by rw [decide_eq_false h]; simp)]; rfl
  rw [e]; rfl
theorem cdN_le (xs : List Int) (i t : Nat) : cdN xs i t ≤ t := by
  unfold cdN
  exact Nat.le_trans (List.length_filter_le _ _) (by simp)
/-- the code -/
def codeN (xs : List Int) (i : Nat) : Nat := cdN xs i (xs.length - (i + 1))
def codeL (xs : List Int) : List Int := (List.range xs.length).map fun i => (codeN xs i : Int)
theorem codeL_length (xs : List Int) : (codeL xs).length = xs.length := by simp [codeL]
theorem codeL_getD {xs : List Int} {i : Nat} (h : i < xs.length) : (codeL xs).getD i 0 = (codeN xs i : Int) := by simp [codeL, List.getD_eq_getElem?_getD, h]
/-- the length, place by place -/
def lenTo (xs : List Int) : Nat → Nat
  | 0 => 0
  | k + 1 => lenTo xs k + codeN xs k
def lenP (xs : List Int) : Nat := lenTo xs xs.length
theorem lenTo_le (xs : List Int) : ∀ k, lenTo xs k ≤ k * xs.length
  | 0 => by simp [lenTo]
  | k + 1 => by
    have := lenTo_le xs k
    have h2 := cdN_le xs k (xs.length - (k + 1))
    unfold lenTo codeN
    rw [Nat.succ_mul]; omega

set_option maxRecDepth 100000 in
set_option maxHeartbeats 2000000 in
theorem implCode_any (v : Value) (xs : List Int) (w : World) (h : Ints w v xs) (hp : permOk xs = true) :
    Calls Try.prog 29 #[v] w (RetI w (codeL xs)) := by
  obtain ⟨hl1, hl7, _, _⟩ := of_decide_eq_true hp
  have Hp := Lib.hid hp
  have Hh := Lib.hid h
  obtain ⟨p, cap, rfl, ⟨hx1, hx⟩, hxc⟩ := h
  obtain ⟨b, off, rfl, hc⟩ := hxc (by omega)
  unfold maxLen at hx
  have Hc := Lib.hid hc
  have hmk := run_make_row' (P := Try.prog) 24 3 (.int .i64 0) 8 Try.underlying24 info_int rfl .i64 .i64 xs.length (by omega) (by omega)
  have Hmk := Lib.hid hmk
  clear hp hxc hc hmk
  go_enter Try.func29, Try.ntmps29
  go_wp2_with fail
  refine (implIsPerm_b _ xs _ Hp.out _ Hh.out).mono ?_
  rintro e w1 ⟨rfl, hb⟩
  have Hb1 := Lib.hid hb
  have hmk := Hmk.out
  clear hb
  go_wp2_with fail
  clear hmk
  obtain ⟨w2, hw2⟩ : ∃ x, x = w1.alloc (.cells (madeCells #[Value.int .i64 0] xs.length) 3) := ⟨_, rfl⟩
  have Hbl := Lib.hid (show Below w.heap.size w w2 by rw [hw2]; exact Hb1.out.trans ((below_alloc w1 _).mono Hb1.out.size))
  have Hs := Lib.hid (show w.heap.size ≤ w1.heap.size ∧ w2.heap.size = w1.heap.size + 1 from ⟨Hb1.out.size, by rw [hw2, size_alloc]⟩)
  have hO : OwnF w2 w1.heap.size (w1.heap.size + 1) 3 (.slice (some ⟨w1.heap.size, 0, none⟩) xs.length xs.length) xs.length (fun _ => .int .i64 0) := by
    rw [hw2]
    have := World.rowIs_alloc w1 (madeCells #[Value.int .i64 0] xs.length) 3 (fun _ => .int .i64 0) (fun k hk => by
      simp [madeCells] at hk
      simp [madeCells, hk, Nat.mod_one])
    exact OwnF.mk' (F := fun _ => .int .i64 0) (by simpa [madeCells] using this) (Nat.le_refl _) (by omega) (Nat.le_refl _) (by unfold maxLen; omega) fun j hj => rfl
  have HO := Lib.hid hO
  rw [← hw2]
  clear hw2 hO
  go_loopg [15] xs.length (fun gg s15 wr => ∃ i : Nat, i ≤ xs.length ∧ gg = xs.length - i ∧ s15 = .int .i64 i ∧ Frm w1.heap.size (w1.heap.size + 1) w2 wr ∧ Hid (OwnF wr w1.heap.size (w1.heap.size + 1) 3 (.slice (some ⟨w1.heap.size, 0, none⟩) xs.length xs.length) xs.length (fun j => .int .i64 (if j < i then (codeN xs j : Int) else 0))))
  case atStart => exact ⟨0, Nat.zero_le _, rfl, rfl, Frm.refl _ _ _, HO.out.congr fun j hj => by simp⟩
  case round =>
    obtain ⟨i, hi, rfl, rfl, hF, hO⟩ := hrel
    obtain ⟨wo, rfl⟩ : ∃ x : World, x = wr := ⟨_, rfl⟩
    have HF := Lib.hid hF
    have HO1 := Lib.hid hO.out
    clear hO hF
    have Hbw := fun (W : World) (hf : Frm w1.heap.size (w1.heap.size + 1) w2 W) => show Below w.heap.size w W from Hbl.out.trans (hf.below Hs.out.1 Hbl.out.size)
    have HBw := Lib.hid Hbw
    clear Hbw
    by_cases hlt : i < xs.length
    · have hlt2 : (i : Int) < (xs.length : Int) := by omega
      have hlt3 : (0 : Int) ≤ (i : Int) := by omega
      have hlt4 : (i : Int) + 1 ≤ (xs.length : Int) := by omega
      have hlt5 : (0 : Int) ≤ (i : Int) + 1 := by omega
      have hlt6 : ((i : Int) + 1).toNat = i + 1 := by omega
      by_cases hcap : cap = i + 1
      · have hn : xs.length - (i + 1) = 0 := by omega
        have Hcap := Lib.hid hcap
        have hcap3 : cap - (i + 1) = 0 := by omega
        have hcap4 : (i : Int) + 1 ≤ (cap : Int) := by omega
        clear hcap
        go_wp2_with fail
        go_loopg [23] (xs.length - (i + 1)) (fun gg s23 wr => ∃ t : Nat, t ≤ xs.length - (i + 1) ∧ gg = xs.length - (i + 1) - t ∧ s23 = .int .i64 t ∧ Frm w1.heap.size (w1.heap.size + 1) w2 wr ∧ Hid (OwnF wr w1.heap.size (w1.heap.size + 1) 3 (.slice (some ⟨w1.heap.size, 0, none⟩) xs.length xs.length) xs.length (fun j => .int .i64 (if j < i then (codeN xs j : Int) else if j = i then (cdN xs i t : Int) else 0))))
        case atStart => exact ⟨0, Nat.zero_le _, rfl, rfl, HF.out, HO1.out.congr fun j hj => by
          by_cases h1 : j < i
          · simp [h1]
          · simp [h1, cdN_zero]⟩
        case round =>
          obtain ⟨t, ht, rfl, rfl, hF, hO⟩ := hrel
          have HF2 := Lib.hid hF
          have HO2 := Lib.hid hO.out
          clear hF hO
          by_cases htl : t < xs.length - (i + 1)
          · exact absurd htl (by omega)
          · obtain rfl : t = xs.length - (i + 1) := by omega
            have htl2 : ¬ ((xs.length - (i + 1) : Nat) : Int) < ((xs.length - (i + 1) : Nat) : Int) := by omega
            have HO3 := Lib.hid (show OwnF wr w1.heap.size (w1.heap.size + 1) 3 (.slice (some ⟨w1.heap.size, 0, none⟩) xs.length xs.length) xs.length (fun j => .int .i64 (if j < i + 1 then (codeN xs j : Int) else 0)) from HO2.out.congr fun j hj => by
              by_cases h1 : j < i
              · rw [if_pos h1, if_pos (by omega)]
              · by_cases h2 : j = i
                · subst h2; rw [if_neg h1, if_pos rfl, if_pos (by omega)]; rfl
                · rw [if_neg h1, if_neg h2, if_neg (by omega)])
            go_wp2_with fail
            go_roundg (xs.length - (i + 1))
            case measure => omega
            case rel => exact ⟨i + 1, by omega, rfl, by go_num, HF2.out, HO3.out⟩
      · have hcap2 : ¬ cap - (i + 1) = 0 := by omega
        go_wp2_with fail
        go_loopg [23] (xs.length - (i + 1)) (fun gg s23 wr => ∃ t : Nat, t ≤ xs.length - (i + 1) ∧ gg = xs.length - (i + 1) - t ∧ s23 = .int .i64 t ∧ Frm w1.heap.size (w1.heap.size + 1) w2 wr ∧ Hid (OwnF wr w1.heap.size (w1.heap.size + 1) 3 (.slice (some ⟨w1.heap.size, 0, none⟩) xs.length xs.length) xs.length (fun j => .int .i64 (if j < i then (codeN xs j : Int) else if j = i then (cdN xs i t : Int) else 0))))
        case atStart => exact ⟨0, Nat.zero_le _, rfl, rfl, HF.out, HO1.out.congr fun j hj => by
          by_cases h1 : j < i
          · simp [h1]
          · simp [h1, cdN_zero]⟩
        case round =>
          obtain ⟨t, ht, rfl, rfl, hF, hO⟩ := hrel
          have HF2 := Lib.hid hF
          have HO2 := Lib.hid hO.out
          clear hF hO
          by_cases htl : t < xs.length - (i + 1)
          · have htl2 : (t : Int) < ((xs.length - (i + 1) : Nat) : Int) := by omega
            have htl3 : (0 : Int) ≤ (t : Int) := by omega
            have hk1 := Hc.out (i + 1 + t) (by omega)
            have hk2 := Hc.out i hlt
            have hbw := HBw.out wr HF2.out
            have c1 : wr.cell? ⟨b, off + (i + 1) + t, none⟩ = some (.int .i64 (xs.getD (i + 1 + t) 0)) := by
              rw [show off + (i + 1) + t = off + (i + 1 + t) by omega, hbw.cell (p := ⟨b, off + (i + 1 + t), none⟩) (World.block_lt_of_cell? _ _ hk1), hk1]; rfl
            have c2 : wr.cell? ⟨b, off + i, none⟩ = some (.int .i64 (xs.getD i 0)) := by
              rw [hbw.cell (p := ⟨b, off + i, none⟩) (World.block_lt_of_cell? _ _ hk2), hk2]; rfl
            have c3 := HO2.out.cell hlt
            have c4 := HO2.out.frozen i
            rw [if_neg (Nat.lt_irrefl i), if_pos rfl] at c3
            have hle := cdN_le xs i t
            obtain ⟨x, hx'⟩ : ∃ x, x = xs.getD i 0 := ⟨_, rfl⟩
            obtain ⟨y, hy'⟩ : ∃ y, y = xs.getD (i + 1 + t) 0 := ⟨_, rfl⟩
            obtain ⟨c, hc'⟩ : ∃ c, c = cdN xs i t := ⟨_, rfl⟩
            rw [← hy'] at c1
            rw [← hx'] at c2
            rw [← hc'] at c3 hle
            have Hx := Lib.hid hx'
            have Hy := Lib.hid hy'
            have Hcc := Lib.hid hc'
            clear hk1 hk2 hbw hx' hy' hc'
            by_cases hlt9 : y < x
            · have HG := Lib.hid (show cdN xs i (t + 1) = c + 1 by rw [cdN_yes (by rw [← Hx.out, ← Hy.out]; exact hlt9), Hcc.out])
              go_wp2_with fail
              go_roundg (xs.length - (i + 1) - (t + 1))
              case measure => omega
              case rel =>
                refine ⟨t + 1, by omega, rfl, by go_num, HF2.out.setCell (p := ⟨w1.heap.size, i, none⟩) (Nat.le_refl _) (Nat.lt_succ_self _) _, ?_⟩
                refine (HO2.out.set i _).congr fun j hj => ?_
                by_cases h1 : j = i
                · subst h1; rw [if_pos rfl, if_neg (Nat.lt_irrefl _), if_pos rfl, HG.out]; go_num
                · rw [if_neg h1]
                  simp only [h1, if_false]
            · have HG := Lib.hid (show cdN xs i (t + 1) = cdN xs i t from cdN_no (by rw [← Hx.out, ← Hy.out]; exact hlt9))
              go_wp2_with fail
              go_roundg (xs.length - (i + 1) - (t + 1))
              case measure => omega
              case rel => exact ⟨t + 1, by omega, rfl, by go_num, HF2.out, by show OwnF _ _ _ _ _ _ _; rw [HG.out]; exact HO2.out⟩
          · obtain rfl : t = xs.length - (i + 1) := by omega
            have htl2 : ¬ ((xs.length - (i + 1) : Nat) : Int) < ((xs.length - (i + 1) : Nat) : Int) := by omega
            have HO3 := Lib.hid (show OwnF wr w1.heap.size (w1.heap.size + 1) 3 (.slice (some ⟨w1.heap.size, 0, none⟩) xs.length xs.length) xs.length (fun j => .int .i64 (if j < i + 1 then (codeN xs j : Int) else 0)) from HO2.out.congr fun j hj => by
              by_cases h1 : j < i
              · rw [if_pos h1, if_pos (by omega)]
              · by_cases h2 : j = i
                · subst h2; rw [if_neg h1, if_pos rfl, if_pos (by omega)]; rfl
                · rw [if_neg h1, if_neg h2, if_neg (by omega)])
            go_wp2_with fail
            go_roundg (xs.length - (i + 1))
            case measure => omega
            case rel => exact ⟨i + 1, by omega, rfl, by go_num, HF2.out, HO3.out⟩
    · obtain rfl : i = xs.length := by omega
      have hlt2 : ¬ (xs.length : Int) < (xs.length : Int) := by omega
      have HO9 := Lib.hid (show OwnI 3 wo w1.heap.size (w1.heap.size + 1) (.slice (some ⟨w1.heap.size, 0, none⟩) xs.length xs.length) (codeL xs) by
        refine OwnF.ints ?_
        rw [codeL_length]
        exact HO1.out.congr fun j hj => by rw [if_pos hj]; unfold iv; rw [codeL_getD hj])
      go_wp2_with fail
      go_ret
      exact ⟨_, rfl, HO9.out.mono Hs.out.1 (by have := Hs.out.2; have := HF.out.size; omega), HBw.out _ HF.out⟩

set_option maxRecDepth 100000 in
set_option maxHeartbeats 2000000 in
theorem implLength_any (v : Value) (xs : List Int) (w : World) (h : Ints w v xs) (hp : permOk xs = true) :
    Calls Try.prog 11 #[v] w fun e w' => e = .returned (.int .i64 (lenP xs : Int)) ∧ Below w.heap.size w w' := by
  obtain ⟨hl1, hl7, _, _⟩ := of_decide_eq_true hp
  have Hp := Lib.hid hp
  have Hh := Lib.hid h
  clear hp h
  go_enter Try.func11, Try.ntmps11
  go_wp2_with fail
  refine (implIsPerm_b _ xs _ Hp.out _ Hh.out).mono ?_
  rintro e w1 ⟨rfl, hb⟩
  have Hb1 := Lib.hid hb
  have Hh1 := Lib.hid (Hh.out.below hb)
  clear hb
  go_wp2_with fail
  refine (implCode_any _ xs _ Hh1.out Hp.out).mono ?_
  rintro e w2 ⟨u, rfl, ho, hb⟩
  have hoi := ho.ints
  obtain ⟨p, cap, rfl, ⟨hx1, hx⟩, hxc⟩ := hoi
  rw [codeL_length] at *
  unfold maxLen at hx
  have Hb2 := Lib.hid (Hb1.out.trans (hb.mono Hb1.out.size))
  obtain ⟨b, off, rfl, hc⟩ := hxc (by omega)
  have Hc := Lib.hid hc
  clear hb ho hxc hc
  go_wp2_with fail
  go_loop [3, 12] (fun s3 s12 => ∃ k : Nat, k ≤ xs.length ∧ s12 = .int .i64 k ∧ s3 = .int .i64 (lenTo xs k : Int)) (fun _ s12 => xs.length - (intOf s12).toNat)
  case atStart => exact ⟨0, Nat.zero_le _, rfl, rfl⟩
  case round =>
    obtain ⟨k, hk, rfl, rfl⟩ := hrel
    by_cases hlt : k < xs.length
    · have hlt2 : (k : Int) < (xs.length : Int) := by omega
      have hlt3 : (0 : Int) ≤ (k : Int) := by omega
      have c1 := Hc.out k hlt
      unfold iv at c1
      rw [codeL_getD hlt] at c1
      have hle := lenTo_le xs k
      have hle2 : codeN xs k ≤ xs.length - (k + 1) := cdN_le xs k _
      have hle3 : k * xs.length ≤ 7 * 7 := Nat.mul_le_mul (by omega) hl7
      have HS := Lib.hid (show lenTo xs (k + 1) = lenTo xs k + codeN xs k from rfl)
      obtain ⟨A, hA⟩ : ∃ A, A = lenTo xs k := ⟨_, rfl⟩
      obtain ⟨B, hB⟩ : ∃ B, B = codeN xs k := ⟨_, rfl⟩
      have hAl : A ≤ 49 := by omega
      have hBl : B ≤ 7 := by omega
      rw [← hA, ← hB] at HS
      rw [← hB] at c1
      rw [← hA]
      clear hA hB hle hle2 hle3
      go_wp2_with fail
      go_round
      case rel => exact ⟨k + 1, by omega, by go_num, by rw [HS.out]; go_num⟩
      case measure => simp [intOf]; omega
    · obtain rfl : k = xs.length := by omega
      have hlt2 : ¬ (xs.length : Int) < (xs.length : Int) := by omega
      go_wp2_with fail
      go_ret
      exact ⟨rfl, Hb2.out⟩

end Go.Proofs.Ytpfefjdefopccaa

namespace Go.Proofs.Ytpfefjdefopccaa
set_option linter.all false
open Go.RowKit

theorem rel1 (P : Int) (n : Nat) (dA dB : Value) (DA DB : List Int) (w : World) (hdA : Ints w dA DA) (hdB : Ints w dB DB) :
    Calls Try.prog 6 #[.agg #[.int .i64 P, .int .i64 (n : Int), .int .i64 (n : Int), dA], .agg #[.int .i64 P, .int .i64 (n : Int), .int .i64 (n : Int), dB]] w fun e w' =>
      ∃ (p : Option Addr) (k : Nat) (l : List Int), e = .returned (.slice p l.length k) ∧ OwnI 3 w' w.heap.size w'.heap.size (.slice p l.length k) l ∧ Below w.heap.size w w' ∧ RpIs P n n DA P n n DB l := by
  refine (implRel_ex P n n P n n dA dB DA DB w hdA hdB).mono ?_
  rintro e w' ⟨l, h4, ⟨u, h1, h2, h3⟩⟩
  obtain ⟨p, k, rfl, _, _⟩ := h2.shape
  exact ⟨p, k, _, h1, h2, h3, h4⟩
theorem fok1 (P : Int) (n : Nat) (d : Value) (D : List Int) (w : World) (h : IsFl P n n D) (hd : Ints w d D) :
    Calls Try.prog 18 #[.agg #[.int .i64 P, .int .i64 (n : Int), .int .i64 (n : Int), d]] w fun e w' => e = .returned (.bool true) ∧ Below w.heap.size w w' := implFlag_yes P n n d D h w hd

/-- the normal form DM and the permutation DW of the flag D -/
def NfP (P : Int) (n : Nat) (D DM DW : List Int) : Prop := IsFl P n n D ∧ ∃ X q, NfOf P n D X q ∧ DM = flatM n n X ∧ DW = qL n q
section
variable {P : Int} {n : Nat} {D DM DW : List Int}
theorem NfP.of (hf : IsFl P n n D) (h : NfIs P n n D ⟨P, n, n, DM⟩ true) (h2 : FpIs P n n D DW) : NfP P n D DM DW := by
  obtain ⟨_, X, q, h3, e⟩ := NfIs.of hf h
  injection e with _ _ _ e
  exact ⟨hf, X, q, h3, e, h3.perm hf h2⟩
theorem nf_flag (hf : IsFl P n n D) (h : NfIs P n n D ⟨P, n, n, DM⟩ true) : IsFl P n n DM := by
  obtain ⟨_, X, q, h3, e⟩ := NfIs.of hf h
  injection e with _ _ _ e
  subst e
  exact h3.fl hf
theorem nf_twice {DN : List Int} (hf : IsFl P n n D) (h : NfIs P n n D ⟨P, n, n, DM⟩ true) (h2 : NfIs P n n DM ⟨P, n, n, DN⟩ true) : DN = DM := by
  obtain ⟨_, X, q, h3, e⟩ := NfIs.of hf h
  injection e with _ _ _ e
  subst e
  have := (h3.again hf h2).2
  injection this
theorem NfP.againP (h : NfP P n D DM DW) {l : List Int} (h2 : FpIs P n n DM l) : l = DW := by
  obtain ⟨hf, X, q, h3, rfl, rfl⟩ := h
  exact h3.againP hf h2
theorem NfP.pos (h : NfP P n D DM DW) {l : List Int} (h2 : RpIs P n n D P n n DM l) : l = idL n := by
  obtain ⟨hf, X, q, h3, rfl, rfl⟩ := h
  exact h3.pos hf h2
theorem NfP.added (h : NfP P n D DM DW) {D' DN : List Int} (ha : AddUp P n D D' n) (h2 : NfIs P n n D' ⟨P, n, n, DN⟩ true) : DN = DM := by
  obtain ⟨hf, X, q, h3, rfl, rfl⟩ := h
  have := (h3.added hf ha h2).2
  injection this
theorem NfP.pm (h : NfP P n D DM DW) : ∃ DP, permMx P DW = ⟨P, n, n, DP⟩ ∧ IsFl P n n DP ∧ ∀ l, FpIs P n n DP l → l = DW := by
  obtain ⟨hf, X, q, h3, rfl, rfl⟩ := h
  exact ⟨_, h3.pm hf, h3.pmFl hf, fun l h2 => h3.pmP hf h2⟩
end

end Go.Proofs.Ytpfefjdefopccaa

namespace Go.Proofs.Ytpfefjdefopccaa
set_option linter.all false
open Go.RowKit

theorem qL_perm {n : Nat} {p : Nat → Nat} (h1 : 1 ≤ n) (h7 : n ≤ 7) (hl : ∀ i, i < n → p i < n) (hi : ∀ i k, i < n → k < n → p i = p k → i = k) : permOk (qL n p) = true := by
  unfold permOk
  refine decide_eq_true ⟨by rw [qL_length]; exact h1, by rw [qL_length]; exact h7, fun x hx => ?_, ?_⟩
  · obtain ⟨k, hk, rfl⟩ := List.mem_map.1 hx
    have := hl k (List.mem_range.1 hk)
    rw [qL_length]; omega
  · unfold qL
    refine List.Pairwise.map _ (R := fun a b => a ≠ b ∧ a < n ∧ b < n) ?_ ?_
    · rintro a b ⟨hne, ha, hb⟩ e
      exact hne (hi a b ha hb (Int.ofNat.inj e))
    · refine List.Pairwise.imp_of_mem (R := fun a b => a ≠ b) ?_ List.nodup_range
      intro a b ha hb hne
      exact ⟨hne, List.mem_range.1 ha, List.mem_range.1 hb⟩
theorem invK_at {n : Nat} {p : Nat → Nat} (hi : ∀ i k, i < n → k < n → p i = p k → i = k) {a : Nat} (ha : a < n) : ∀ k, k ≤ n → a < k → invK (qL n p) k (p a) = (a : Int)
  | 0, _, h => absurd h (Nat.not_lt_zero _)
  | k + 1, hk, h => by
    unfold invK
    rw [qL_getD (by omega)]
    by_cases e : k = a
    · subst e; rw [if_pos rfl]
    · rw [if_neg (show ¬ ((p a : Nat) : Int) = ((p k : Nat) : Int) from fun c => e (hi k a (by omega) ha (Int.ofNat.inj c).symm)), invK_at hi ha k (by omega) (by omega)]
theorem invL_q {n : Nat} {p q : Nat → Nat} (hi : ∀ i k, i < n → k < n → p i = p k → i = k) (hq : ∀ j, j < n → q j < n ∧ p (q j) = j) : invL (qL n p) = qL n q := by
  refine getD_eq_list (by rw [invL_length, qL_length, qL_length]) fun j hj => ?_
  rw [invL_length, qL_length] at hj
  rw [invL_getD (by rw [qL_length]; exact hj), qL_length, qL_getD hj]
  have := invK_at hi (hq j hj).1 n (Nat.le_refl _) (hq j hj).1
  rw [(hq j hj).2] at this
  exact this

/-- nothing is turned round just if all is at its place -/
theorem lenTo_zero {xs : List Int} : ∀ k, lenTo xs k = 0 ↔ ∀ i, i < k → codeN xs i = 0
  | 0 => by simp [lenTo]
  | k + 1 => by
    have := lenTo_zero (xs := xs) k
    unfold lenTo
    constructor
    · intro h i hi
      by_cases e : i = k
      · subst e; omega
      · exact this.1 (by omega) i (by omega)
    · intro h
      have h1 := this.2 fun i hi => h i (by omega)
      have h2 := h k (by omega)
      omega
theorem codeN_zero {xs : List Int} {i : Nat} : codeN xs i = 0 ↔ ∀ k, i < k → k < xs.length → ¬ xs.getD k 0 < xs.getD i 0 := by
  unfold codeN cdN
  rw [List.length_eq_zero_iff, List.filter_eq_nil_iff]
  constructor
  · intro h k h1 h2
    have := h (k - (i + 1)) (List.mem_range.2 (by omega))
    rw [show i + 1 + (k - (i + 1)) = k by omega] at this
    simpa using this
  · intro h s hs
    have := h (i + 1 + s) (by omega) (by have := List.mem_range.1 hs; omega)
    simpa using this
theorem lenP_zero {n : Nat} {p : Nat → Nat} (hl : ∀ i, i < n → p i < n) (hi : ∀ i k, i < n → k < n → p i = p k → i = k) : lenP (qL n p) = 0 ↔ ∀ i, i < n → p i = i := by
  unfold lenP
  rw [lenTo_zero, qL_length]
  constructor
  · intro h
    refine asc_same (fun i k hik hk => ?_) hl
    have := codeN_zero.1 (h i (by omega)) k hik (by rw [qL_length]; exact hk)
    rw [qL_getD hk, qL_getD (by omega)] at this
    have h2 : p i ≠ p k := fun e => by have := hi i k (by omega) hk e; omega
    omega
  · intro h i hin
    refine codeN_zero.2 fun k h1 h2 => ?_
    rw [qL_length] at h2
    rw [qL_getD h2, qL_getD hin, h k h2, h i hin]
    omega

/-- the positions of two flags, there and back, their ranks -/
def RlP (P : Int) (n : Nat) (DA DB l l2 : List Int) : Prop :=
  ∃ (p q : Nat → Nat) (r : Nat → Nat → Nat), RkF P n (mf n fun t => DA.getD t 0) (mf n fun t => DB.getD t 0) r ∧ (∀ i, i < n → p i < n ∧ Rk.At r i (p i)) ∧ (∀ j, j < n → q j < n ∧ Rk.At (fun j i => r i j) j (q j)) ∧ l = qL n p ∧ l2 = qL n q
section
variable {P : Int} {n : Nat} {DA DB l l2 : List Int}
theorem rpIs_q {D D' m : List Int} {p : Nat → Nat} (h : RpIs P n n D P n n D' m) (h1 : IsFl P n n D) (h2 : IsFl P n n D') (hp : ∀ i, i < n → RpAt P n (mf n fun t => D.getD t 0) (mf n fun t => D'.getD t 0) i (p i : Int)) : m = qL n p := by
  rcases h with ⟨_, e1, e2⟩ | ⟨t, _⟩
  · rw [Int.toNat_natCast] at e1 e2
    refine getD_eq_list (by rw [e1, qL_length]) fun j hj => ?_
    rw [e1] at hj
    rw [(e2 j (by omega)).one (hp j hj), qL_getD hj]
  · exact absurd ⟨h1, h2, rfl, rfl⟩ t
theorem RlP.of (ha : IsFl P n n DA) (hb : IsFl P n n DB) (h : RpIs P n n DA P n n DB l) (h2 : RpIs P n n DB P n n DA l2) : RlP P n DA DB l l2 := by
  obtain ⟨p, q, r, hr, hp, hq⟩ := rel_fun ha.flM hb.flM
  exact ⟨p, q, r, hr, hp, hq, rpIs_q h ha hb fun i hi => hr.rpAt ha.flM hb.flM hi (hp i hi).1 (hp i hi).2,
    rpIs_q h2 hb ha fun j hj => hr.swap.rpAt hb.flM ha.flM hj (hq j hj).1 (hq j hj).2⟩
theorem RlP.perm (ha : IsFl P n n DA) (hb : IsFl P n n DB) (h : RlP P n DA DB l l2) : permOk l = true := by
  obtain ⟨p, q, r, hr, hp, hq, rfl, rfl⟩ := h
  obtain ⟨m, _, e, hn0, hn7, _⟩ := ha.facts
  obtain rfl := Int.ofNat.inj e
  have hR := hr.rk ha.flM hb.flM
  exact qL_perm hn0 hn7 (fun i hi => (hp i hi).1) fun i k hi hk e => hR.inj hi hk (hp i hi).1 (hp i hi).2 (by rw [e]; exact (hp k hk).2)
theorem RlP.inv (ha : IsFl P n n DA) (hb : IsFl P n n DB) (h : RlP P n DA DB l l2) : l2 = invL l := by
  obtain ⟨p, q, r, hr, hp, hq, rfl, rfl⟩ := h
  have hR := hr.rk ha.flM hb.flM
  refine (invL_q (fun i k hi hk e => hR.inj hi hk (hp i hi).1 (hp i hi).2 (by rw [e]; exact (hp k hk).2)) fun j hj => ⟨(hq j hj).1, ?_⟩).symm
  have h1 := hR.swap.at_swap hj (hq j hj).1 (hq j hj).2
  exact hR.at_one (hq j hj).1 (hp _ (hq j hj).1).1 hj (hp _ (hq j hj).1).2 h1
/-- both moved: the same -/
theorem RlP.moved {DG DX DY l3 : List Int} (ha : IsFl P n n DA) (hb : IsFl P n n DB) (hg : IsFl P n n DG) (h : RlP P n DA DB l l2)
    (hX : ∀ i j, i < n → j < n → mf n (fun t => DX.getD t 0) i j = pr n (mf n fun t => DA.getD t 0) (mf n fun t => DG.getD t 0) i j % P)
    (hY : ∀ i j, i < n → j < n → mf n (fun t => DY.getD t 0) i j = pr n (mf n fun t => DB.getD t 0) (mf n fun t => DG.getD t 0) i j % P)
    (fx : IsFl P n n DX) (fy : IsFl P n n DY) (h3 : RpIs P n n DX P n n DY l3) : l3 = l := by
  obtain ⟨p, q, r, hr, hp, hq, rfl, rfl⟩ := h
  have hr2 : RkF P n (mf n fun t => DX.getD t 0) (mf n fun t => DY.getD t 0) r := fun i j hi hj => by
    refine (HasRank.mul ha.flM.pr (hr i j hi hj) hg.indep).congr fun t c ht hc => ?_
    by_cases h1 : t < i
    · rw [stackM_lt h1, hX t c (by omega) hc]
      show _ = pr n (stackM i _ _) _ t c % P
      rw [show pr n (stackM i (mf n fun t => DA.getD t 0) (mf n fun t => DB.getD t 0)) (mf n fun t => DG.getD t 0) t c = pr n (mf n fun t => DA.getD t 0) (mf n fun t => DG.getD t 0) t c from sm_congr fun k _ => by rw [stackM_lt h1]]
    · rw [stackM_ge h1, hY (t - i) c (by omega) hc]
      show _ = pr n (stackM i _ _) _ t c % P
      rw [show pr n (stackM i (mf n fun t => DA.getD t 0) (mf n fun t => DB.getD t 0)) (mf n fun t => DG.getD t 0) t c = pr n (mf n fun t => DB.getD t 0) (mf n fun t => DG.getD t 0) (t - i) c from sm_congr fun k _ => by rw [stackM_ge h1]]
  exact rpIs_q h3 fx fy fun i hi => hr2.rpAt fx.flM fy.flM hi (hp i hi).1 (hp i hi).2
/-- the members are the same just if nothing is turned round -/
theorem RlP.same (ha : IsFl P n n DA) (hb : IsFl P n n DB) (h : RlP P n DA DB l l2) {MA MB : List Int} (hA : NfIs P n n DA ⟨P, n, n, MA⟩ true) (hB : NfIs P n n DB ⟨P, n, n, MB⟩ true) (hl : RpIs P n n DA P n n DB l) :
    MA = MB ↔ lenP l = 0 := by
  obtain ⟨_, X, qx, hx, ex⟩ := NfIs.of ha hA
  obtain ⟨_, Y, qy, hy, ey⟩ := NfIs.of hb hB
  injection ex with _ _ _ ex
  injection ey with _ _ _ ey
  obtain ⟨p, q, r, hr, hp, hq, rfl, rfl⟩ := h
  have hP := (primeOk_range ha.flM.pr).1
  have hR := hr.rk ha.flM hb.flM
  have hz := lenP_zero (n := n) (p := p) (fun i hi => (hp i hi).1) (fun i k hi hk e => hR.inj hi hk (hp i hi).1 (hp i hi).2 (by rw [e]; exact (hp k hk).2))
  rw [hz]
  constructor
  · intro e
    rw [ex, ey] at e
    have hs : ∀ i, i ≤ n → SameSp P n i (mf n fun t => DA.getD t 0) i (mf n fun t => DB.getD t 0) := fun i hi => by
      have h1 := hx.same hP i hi
      have h2 := hy.same hP i hi
      rw [← e] at h2
      exact h1.trans h2.symm
    have h3 := RpIs.same ha hb hs hl
    intro i hi
    have h4 : (qL n p).getD i 0 = ((List.range n).map fun k : Nat => (k : Int)).getD i 0 := by rw [h3]
    rw [qL_getD hi] at h4
    simp [List.getD_eq_getElem?_getD, hi] at h4
    exact Int.ofNat.inj h4
  · intro hid
    have hd := hR.diag fun i hi => by have := (hp i hi).2; rwa [hid i hi] at this
    have hs : ∀ i, i ≤ n → SameSp P n i (mf n fun t => DA.getD t 0) i (mf n fun t => DB.getD t 0) := fun i hi => by
      have hk := hr i i hi hi
      rw [hd i hi] at hk
      have s1 := HasRank.same_of_sub hP hk (ha.flM.part hi) fun t ht => by
        have := Sp.row (p := P) (C := n) (M := stackM i (mf n fun t => DA.getD t 0) (mf n fun t => DB.getD t 0)) (n := i + i) (i := t) (by omega)
        rwa [stackM_lt ht] at this
      have s2 := HasRank.same_of_sub hP hk (hb.flM.part hi) fun t ht => by
        have := Sp.row (p := P) (C := n) (M := stackM i (mf n fun t => DA.getD t 0) (mf n fun t => DB.getD t 0)) (n := i + i) (i := i + t) (by omega)
        rwa [stackM_ge (by omega), show i + t - i = t by omega] at this
      exact s1.trans s2.symm
    have h4 := (NfUp.fix hP hx.up hy.up hs).2
    rw [ex, ey]
    exact flatM_congr fun i j hi hj => h4 i j hi hj
end

end Go.Proofs.Ytpfefjdefopccaa

namespace Go.Proofs.Ytpfefjdefopccaa
set_option linter.all false
open Go.RowKit

/-- x divided by 1, 2, .., j -/
def restAt (x : Nat) : Nat → Nat
  | 0 => x
  | j + 1 => restAt x j / (j + 1)
def digits (n x : Nat) : List Nat := (List.range n).map fun i => restAt x (n - 1 - i) % (n - i)
def permsL (n : Nat) : List (List Int) := (List.range (fact n)).map fun x => decL n (digits n x)
theorem restAt_le (x j : Nat) : restAt x j ≤ x := by
  induction j with
  | zero => exact Nat.le_refl _
  | succ j ih => exact Nat.le_trans (Nat.div_le_self _ _) ih
theorem digits_getD {n x t : Nat} (h : t < n) : (digits n x).getD t 0 = restAt x (n - 1 - t) % (n - t) := by simp [digits, List.getD_eq_getElem?_getD, h]
theorem digits_le (n x : Nat) : ∀ c ∈ digits n x, c ≤ x := by
  intro c hc
  simp only [digits, List.mem_map, List.mem_range] at hc
  obtain ⟨i, _, rfl⟩ := hc
  exact Nat.le_trans (Nat.mod_le _ _) (restAt_le _ _)
theorem permsL_take {n x : Nat} (h : x < fact n) : (permsL n).take (x + 1) = (permsL n).take x ++ [decL n (digits n x)] := by
  rw [List.take_add_one]
  congr 1
  simp [permsL, h]
theorem digits_length (n x : Nat) : (digits n x).length = n := by simp [digits]

theorem ownII_nil (w : World) (lo hi : Nat) : OwnII 24 3 w lo hi (.slice none 0 0) [] :=
  ⟨fun _ => undef, OwnF.nil _ _ _ _ _, fun i hi => absurd hi (Nat.not_lt_zero _), fun i j _ hj => absurd hj (Nat.not_lt_zero _)⟩
def allPermsL (N : Int) : List (List Int) := if 1 ≤ N ∧ N ≤ 5 then permsL N.toNat else []

end Go.Proofs.Ytpfefjdefopccaa

namespace Go.Proofs.Ytpfefjdefopccaa
set_option linter.all false
open Go.RowKit

/-- all lists of numbers below n that are chosen without repeating, behind those that are chosen -/
def allL (n : Nat) : Nat → List Int → List (List Int)
  | 0, ch => [ch]
  | f + 1, ch => (List.range n).flatMap fun (x : Nat) => if (x : Int) ∈ ch then [] else allL n f (ch ++ [(x : Int)])

theorem allL_len (n : Nat) : ∀ f ch, (allL n f ch).length ≤ n ^ f
  | 0, ch => by simp [allL]
  | f + 1, ch => by
    rw [allL, Nat.pow_succ, Nat.mul_comm]
    refine flatMap_len _ _ (fun x => ?_) n
    split
    · simp
    · exact allL_len n f _

set_option maxRecDepth 100000 in
theorem allL_perms (n : Nat) (h1 : 1 ≤ n) (h5 : n ≤ 5) : allL n n [] = permsL n := by
  have : n = 1 ∨ n = 2 ∨ n = 3 ∨ n = 4 ∨ n = 5 := by omega
  rcases this with rfl | rfl | rfl | rfl | rfl <;> decide +kernel

end Go.Proofs.Ytpfefjdefopccaa

namespace Go.Proofs.Ytpfefjdefopccaa
set_option linter.all false
open Go.RowKit

/-- there is a number for each place -/
def nmOk (N : Int) (y : List Int) : Bool := decide (1 ≤ N) && decide (N ≤ 5) && decide ((y.length : Int) = N) && decide (∀ x ∈ y, -9 ≤ x ∧ x ≤ 9)
def shiftB (N : Int) (y : List Int) : Bool := decide ((y.length : Int) = N) && decide (∀ x ∈ y, -9 ≤ x ∧ x ≤ 9)
/-- the numbers are different -/
def apOk (N : Int) (y : List Int) : Bool := nmOk N y && decide (N ≤ 4) && decide y.Nodup
def mostB (vs : List Int) : Bool := decide (∀ x ∈ vs, -1000000000000 ≤ x ∧ x ≤ 1000000000000)
/-- a list with the numbers at two places exchanged -/
def swapL (w : List Int) (i j : Nat) : List Int := (w.set i (w.getD j 0)).set j (w.getD i 0)
theorem swapL_length (w : List Int) (i j : Nat) : (swapL w i j).length = w.length := by simp [swapL]
theorem swapL_getD {w : List Int} {i j t : Nat} (hi : i < w.length) (hj : j < w.length) : (swapL w i j).getD t 0 = if t = j then w.getD i 0 else if t = i then w.getD j 0 else w.getD t 0 := by
  unfold swapL
  by_cases e1 : t = j
  · subst e1
    rw [if_pos rfl, List.getD_eq_getElem?_getD, List.getElem?_set_self (by simpa using hj)]
    rfl
  · rw [if_neg e1, List.getD_eq_getElem?_getD, List.getElem?_set_ne (fun h => e1 h.symm)]
    by_cases e2 : t = i
    · subst e2
      rw [if_pos rfl, List.getElem?_set_self hi]
      rfl
    · rw [if_neg e2, List.getElem?_set_ne (fun h => e2 h.symm), ← List.getD_eq_getElem?_getD]
theorem swapL_comm {w : List Int} {i j : Nat} (hi : i < w.length) (hj : j < w.length) : swapL w i j = swapL w j i := by
  refine getD_eq_list (by rw [swapL_length, swapL_length]) fun t _ => ?_
  rw [swapL_getD hi hj, swapL_getD hj hi]
  by_cases e1 : t = j
  · by_cases e2 : t = i
    · rw [if_pos e1, if_pos e2, ← e1, ← e2]
    · rw [if_pos e1, if_neg e2, if_pos e1]
  · by_cases e2 : t = i
    · rw [if_neg e1, if_pos e2, if_pos e2]
    · rw [if_neg e1, if_neg e2, if_neg e2, if_neg e1]
/-- the code of a list, and its place among the permutations -/
def cdK (xs : List Int) (i t : Nat) : Nat := ((List.range t).filter fun (s : Nat) => decide (xs.getD (i + 1 + s) 0 < xs.getD i 0)).length
def cdA (xs : List Int) (i : Nat) : Nat := cdK xs i (xs.length - (i + 1))
def plA (xs : List Int) : Nat → Nat
  | 0 => 0
  | i + 1 => plA xs i * (xs.length - i) + cdA xs i
def plN (xs : List Int) : Nat := plA xs xs.length
/-- one list comes before another one -/
def ltL : List Int → List Int → Bool
  | [], [] => false
  | [], _ :: _ => true
  | _ :: _, [] => false
  | x :: xs, y :: ys => if x < y then true else if y < x then false else ltL xs ys
def gkChk (n : Nat) : Bool :=
  (List.range (fact n)).all fun x => decide (((permsL n).getD x []).length = n) && ((permsL n).getD x []).all (fun v => decide (0 ≤ v ∧ v < (n : Int))) && decide (((permsL n).getD x []).Nodup) &&
    (List.range n).all (fun j => (List.range j).all fun i => decide (plN (swapL ((permsL n).getD x []) i j) < fact n) && decide ((permsL n).getD (plN (swapL ((permsL n).getD x []) i j)) [] = swapL ((permsL n).getD x []) i j)) &&
    (List.range (fact n)).all fun z => decide (ltL ((permsL n).getD x []) ((permsL n).getD z []) = decide (x < z))
set_option maxRecDepth 100000 in
theorem gk_all : gkChk 1 = true ∧ gkChk 2 = true ∧ gkChk 3 = true ∧ gkChk 4 = true := by decide +kernel
structure GkN (n : Nat) : Prop where
  len : ∀ x, x < fact n → ((permsL n).getD x []).length = n
  rng : ∀ x t, x < fact n → t < n → ∃ m : Nat, ((permsL n).getD x []).getD t 0 = (m : Int) ∧ m < n
  inj : ∀ x s t, x < fact n → s < t → t < n → ((permsL n).getD x []).getD s 0 ≠ ((permsL n).getD x []).getD t 0
  plc : ∀ x i j, x < fact n → i < j → j < n → plN (swapL ((permsL n).getD x []) i j) < fact n ∧ (permsL n).getD (plN (swapL ((permsL n).getD x []) i j)) [] = swapL ((permsL n).getD x []) i j
  lt : ∀ x z, x < fact n → z < fact n → ltL ((permsL n).getD x []) ((permsL n).getD z []) = decide (x < z)
theorem gkN {n : Nat} (h1 : 1 ≤ n) (h4 : n ≤ 4) : GkN n := by
  have hc : gkChk n = true := by
    have : n = 1 ∨ n = 2 ∨ n = 3 ∨ n = 4 := by omega
    rcases this with rfl | rfl | rfl | rfl
    · exact gk_all.1
    · exact gk_all.2.1
    · exact gk_all.2.2.1
    · exact gk_all.2.2.2
  unfold gkChk at hc
  simp only [List.all_eq_true, List.mem_range, Bool.and_eq_true, decide_eq_true_eq] at hc
  refine ⟨fun x hx => (hc x hx).1.1.1.1, fun x t hx ht => ?_, fun x s t hx hs ht e => ?_, fun x i j hx hi hj => (hc x hx).1.2 j hj i hi, fun x z hx hz => (hc x hx).2 z hz⟩
  · have hl := (hc x hx).1.1.1.1
    have := (hc x hx).1.1.1.2 _ (getD_mem (show t < ((permsL n).getD x []).length by omega))
    exact ⟨(((permsL n).getD x []).getD t 0).toNat, by omega, by omega⟩
  · have hl := (hc x hx).1.1.1.1
    have hn := (hc x hx).1.1.2
    have a : s < ((permsL n).getD x []).length := by omega
    have b : t < ((permsL n).getD x []).length := by omega
    rw [getD_lt a, getD_lt b] at e
    exact List.pairwise_iff_getElem.1 hn s t a b hs e

/-- the condition at one place and two numbers -/
def gkAt (n : Nat) (vs y : List Int) (x i j : Nat) : Prop :=
  (vs.getD x 0 - vs.getD (plN (swapL ((permsL n).getD x []) i j)) 0).tmod (y.getD (((permsL n).getD x []).getD i 0).toNat 0 - y.getD (((permsL n).getD x []).getD j 0).toNat 0) = 0
/-- what IsGkm says -/
def GkIs (N : Int) (vs y : List Int) (b : Bool) : Prop :=
  b = true ↔ apOk N y = true ∧ vs.length = fact N.toNat ∧ mostB vs = true ∧ ∀ x i j, x < fact N.toNat → i < j → j < N.toNat → gkAt N.toNat vs y x i j
theorem GkIs.one {N : Int} {vs y : List Int} {b b' : Bool} (h : GkIs N vs y b) (h' : GkIs N vs y b') : b = b' := by
  unfold GkIs at h h'
  have e : b = true ↔ b' = true := h.trans h'.symm
  cases b <;> cases b' <;> simp_all
theorem GkIs.eps {N : Int} {vs y : List Int} {b : Bool} (h : GkIs N vs y b) : b = Classical.epsilon (GkIs N vs y) := h.one (Classical.epsilon_spec ⟨b, h⟩)
theorem GkIs.no1 {N : Int} {vs y : List Int} (h : apOk N y = false) : GkIs N vs y false := ⟨fun e => (by cases e), fun e => by rw [h] at e; cases e.1⟩
theorem GkIs.no2 {N : Int} {vs y : List Int} (h : ¬ vs.length = fact N.toNat) : GkIs N vs y false := ⟨fun e => (by cases e), fun e => absurd e.2.1 h⟩
theorem GkIs.no3 {N : Int} {vs y : List Int} (h : mostB vs = false) : GkIs N vs y false := ⟨fun e => (by cases e), fun e => by have := e.2.2.1; rw [h] at this; cases this⟩
theorem GkIs.no4 {N : Int} {vs y : List Int} {x i j : Nat} (h1 : x < fact N.toNat) (h2 : i < j) (h3 : j < N.toNat) (h : ¬ gkAt N.toNat vs y x i j) : GkIs N vs y false := ⟨fun e => (by cases e), fun e => absurd (e.2.2.2 x i j h1 h2 h3) h⟩

end Go.Proofs.Ytpfefjdefopccaa
