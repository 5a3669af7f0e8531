/-
  The rank of one row more (plain law; no program in sight).
  FlagOk, as a property.
  The normal form of a flag, as plain law.
  More of spans and ranks: rows that are independent, spans within spans, halves of rows (plain law; no program in sight).
  The span, on both sides.
-/
import Derived.Test.YtoodgbflaaabmaaJ7
namespace Go.Proofs.Ytoodgbflaaabmaa
set_option linter.all false
open Go.RowKit

/-- the rank is told by what is spanned -/
theorem HasRank.same {P : Int} {C R R' n : Nat} {M0 M1 : Nat → Nat → Int} (h : HasRank P C R M0 n) (hs : SameSp P C R' M1 R M0) : HasRank P C R' M1 n := by
  obtain ⟨M, q, h1, h2, h3, h4⟩ := h
  exact ⟨M, q, h1, h2, h3, hs.trans h4⟩
theorem HasRank.zero (P : Int) (C : Nat) (M0 : Nat → Nat → Int) : HasRank P C 0 M0 0 :=
  ⟨M0, fun i => i, ⟨fun i hi => absurd hi (Nat.not_lt_zero _), fun i k hi => absurd hi (Nat.not_lt_zero _), fun i j hi => absurd hi (Nat.not_lt_zero _)⟩,
    fun i k _ hk => absurd hk (Nat.not_lt_zero _), fun i c hi => absurd hi (Nat.not_lt_zero _), .refl⟩
theorem HasRank.congr {P : Int} {C R n : Nat} {M0 M1 : Nat → Nat → Int} (h : HasRank P C R M0 n) (e : ∀ i j, i < R → j < C → M1 i j = M0 i j) : HasRank P C R M1 n :=
  h.same (SameSp.of_eqv fun i hi => .of_eq fun j hj => e i j hi hj)

/-- an order in which numbers ascend -/
theorem order_ex (n : Nat) (q : Nat → Nat) (hq : ∀ i k, i < n → k < n → q i = q k → i = k) :
    ∃ τ σ : Nat → Nat, (∀ i, i < n → τ i < n) ∧ (∀ i, i < n → σ i < n ∧ τ (σ i) = i) ∧ (∀ i k, i < n → k < n → τ i = τ k → i = k) ∧ ∀ i k, i < k → k < n → q (τ i) < q (τ k) := by
  let le : Nat → Nat → Bool := fun a b => decide (q a ≤ q b)
  let l := (List.range n).mergeSort le
  have hp : l.Perm (List.range n) := List.mergeSort_perm _ _
  have hs : l.Pairwise fun a b => le a b = true := List.pairwise_mergeSort (fun a b c h1 h2 => by simp [le] at *; omega) (fun a b => by simp [le]; omega) _
  have hlen : l.length = n := by rw [hp.length_eq]; simp
  have hnd : l.Nodup := hp.nodup_iff.2 List.nodup_range
  have hget : ∀ i, i < n → l.getD i 0 ∈ l := fun i hi => by
    rw [List.getD_eq_getElem?_getD, List.getElem?_eq_getElem (by omega)]
    exact List.getElem_mem _
  have hlt : ∀ i, i < n → l.getD i 0 < n := fun i hi => by
    have := hp.mem_iff.1 (hget i hi)
    simpa using this
  have hinj : ∀ i k, i < n → k < n → l.getD i 0 = l.getD k 0 → i = k := fun i k hi hk e => by
    rw [List.getD_eq_getElem?_getD, List.getD_eq_getElem?_getD, List.getElem?_eq_getElem (by omega), List.getElem?_eq_getElem (by omega)] at e
    exact (List.getElem_inj hnd).1 (by simpa using e)
  have hsur : ∀ i, i < n → ∃ k, k < n ∧ l.getD k 0 = i := fun i hi => by
    have : i ∈ l := hp.mem_iff.2 (by simpa using hi)
    obtain ⟨k, hk, e⟩ := List.mem_iff_getElem.1 this
    exact ⟨k, by omega, by rw [List.getD_eq_getElem?_getD, List.getElem?_eq_getElem hk, Option.getD_some, e]⟩
  refine ⟨fun i => l.getD i 0, fun i => if h : i < n then Classical.choose (hsur i h) else 0, hlt, fun i hi => ?_, hinj, fun i k hik hk => ?_⟩
  · simp only [hi, dif_pos]
    exact Classical.choose_spec (hsur i hi)
  · have h1 := List.pairwise_iff_getElem.1 hs i k (by omega) (by omega) hik
    have h2 : q (l.getD i 0) ≤ q (l.getD k 0) := by
      rw [List.getD_eq_getElem?_getD, List.getD_eq_getElem?_getD, List.getElem?_eq_getElem (by omega), List.getElem?_eq_getElem (by omega)]
      exact of_decide_eq_true h1
    rcases Nat.lt_or_ge (q (l.getD i 0)) (q (l.getD k 0)) with h | h
    · exact h
    · have := hinj i k (by omega) hk (hq _ _ (hlt i (by omega)) (hlt k hk) (by omega))
      omega

/-- rows with columns of their own, put in order -/
theorem Red.sort {P : Int} {C n : Nat} {M : Nat → Nat → Int} {q : Nat → Nat} (h : Red P C n M q) (hr : ∀ i c, i < n → c < C → 0 ≤ M i c ∧ M i c < P) : ∃ M' q', IsRed P C n M n M' q' := by
  have hinj : ∀ i k, i < n → k < n → q i = q k → i = k := fun i k hi hk e => by
    have a := h.unit i k hi hk
    rw [← e, h.unit i i hi hi, if_pos rfl] at a
    by_cases e2 : i = k
    · exact e2
    · rw [if_neg e2] at a; cases a
  obtain ⟨τ, σ, h1, h2, h3, h4⟩ := order_ex n q hinj
  refine ⟨fun i => M (τ i), fun i => q (τ i), ⟨fun i hi => h.lt _ (h1 i hi), fun i k hi hk => ?_, fun i j hi hj => h.lead _ j (h1 i hi) hj⟩, h4, fun i c hi hc => hr _ c (h1 i hi) hc, ?_⟩
  · rw [h.unit _ _ (h1 i hi) (h1 k hk)]
    by_cases e : i = k
    · subst e; simp
    · rw [if_neg e, if_neg fun e2 => e (h3 i k hi hk e2)]
  · refine SameSp.perm σ τ (fun i hi => ⟨(h2 i hi).1, ?_⟩) (fun i hi => ⟨h1 i hi, .refl _ _ _⟩)
    rw [(h2 i hi).2]; exact .refl _ _ _

theorem El.all {p : Int} {C : Nat} {out : List (List Int)} {q : Nat → Nat} {r : List Int} (hp : 2 ≤ p) (hr : Red p C out.length (mt out) q) (h : RowOk p C r) : ∀ t, t ≤ out.length → ∃ cur, El p C out q r cur t
  | 0, _ => ⟨r, El.start h⟩
  | t + 1, ht => by
    obtain ⟨cur, hc⟩ := El.all hp hr h t (by omega)
    exact ⟨_, hc.step hp hr (by omega)⟩

/-- rows of functions as lists -/
def rowsL (n C : Nat) (M : Nat → Nat → Int) : List (List Int) := (List.range n).map fun i => (List.range C).map (M i)
theorem rowsL_length (n C : Nat) (M : Nat → Nat → Int) : (rowsL n C M).length = n := by simp [rowsL]
theorem rowsL_mt {n C i j : Nat} {M : Nat → Nat → Int} (hi : i < n) (hj : j < C) : mt (rowsL n C M) i j = M i j := by
  simp [mt, rowsL, List.getD_eq_getElem?_getD, hi, hj]
theorem rowL_ok {P : Int} {C : Nat} {r : Nat → Int} (hP : 0 < P) (hr : ∀ j, j < C → 0 ≤ r j ∧ r j < P) : RowOk P C ((List.range C).map r) := by
  refine ⟨by simp, fun j => ?_⟩
  by_cases hj : j < C
  · simpa [List.getD_eq_getElem?_getD, hj] using hr j hj
  · rw [getD_out (by simp; omega)]; omega
theorem rowsL_ok {P : Int} {n C : Nat} {M : Nat → Nat → Int} (hP : 0 < P) (hr : ∀ i j, i < n → j < C → 0 ≤ M i j ∧ M i j < P) : RowsOk P C (rowsL n C M) := fun i hi => by
  rw [rowsL_length] at hi
  have e : (rowsL n C M).getD i [] = (List.range C).map (M i) := by simp [rowsL, List.getD_eq_getElem?_getD, hi]
  rw [e]
  exact rowL_ok hP (hr i · hi)

/-- a matrix with a row behind it -/
def snocM (n : Nat) (M : Nat → Nat → Int) (r : Nat → Int) (i : Nat) : Nat → Int := if i < n then M i else r

/-- with a row more the rank is the same or one more -/
theorem HasRank.more {P : Int} {C n k : Nat} {M0 : Nat → Nat → Int} (hp : primeOk P = true) (h : HasRank P C n M0 k) (r : Nat → Int) (hr : ∀ j, j < C → 0 ≤ r j ∧ r j < P) :
    ∃ k', (k' = k ∨ k' = k + 1) ∧ HasRank P C (n + 1) (snocM n M0 r) k' := by
  obtain ⟨hP2, hP7⟩ := primeOk_range hp
  obtain ⟨M, q, h1, h2, h3, h4⟩ := h
  obtain ⟨out, hout⟩ : ∃ out, out = rowsL k C M := ⟨_, rfl⟩
  have hl : out.length = k := by rw [hout, rowsL_length]
  have hm : ∀ i j, i < k → j < C → mt out i j = M i j := fun i j hi hj => by rw [hout]; exact rowsL_mt hi hj
  have hred : Red P C out.length (mt out) q := by
    rw [hl]
    refine ⟨h1.lt, fun i m hi hm' => ?_, fun i j hi hj => ?_⟩
    · rw [hm i _ hi (h1.lt m hm')]; exact h1.unit i m hi hm'
    · have := h1.lt i hi
      rw [hm i j hi (by omega)]; exact h1.lead i j hi hj
  have hok : RowsOk P C out := by rw [hout]; exact rowsL_ok (by omega) h3
  have hrow : RowOk P C ((List.range C).map r) := rowL_ok (by omega) hr
  have hsp : SameSp P C (n + 1) (snocM n M0 r) (out.length + 1) (mt (out ++ [(List.range C).map r])) := by
    have e0 : SameSp P C n M0 out.length (mt out) := by
      rw [hl]
      exact h4.trans (SameSp.of_eqv fun i hi => .of_eq fun j hj => (hm i j hi hj).symm)
    have e1 : SameSp P C n (snocM n M0 r) out.length (mt out) := (SameSp.of_eqv fun i hi => by unfold snocM; rw [if_pos hi]; exact .refl _ _ _).trans e0
    refine SameSp.snoc e1 ?_ fun i hi => by rw [mt_snoc_lt hi]; exact .refl _ _ _
    rw [mt_snoc_at]
    unfold snocM
    rw [if_neg (Nat.lt_irrefl _)]
    exact .of_eq fun j hj => by simp [List.getD_eq_getElem?_getD, hj]
  generalize (List.range C).map r = rl at *
  obtain ⟨cur, hel⟩ := El.all (r := rl) hP2 hred hrow out.length (Nat.le_refl _)
  have hcl := hel.ok.1
  rcases pivL_cases cur with ⟨_, h0⟩ | ⟨K, _, hK, hKn, hK0⟩
  · refine ⟨k, .inl rfl, ?_⟩
    have := hsp.trans (hel.none h0)
    obtain ⟨M', q', hs⟩ := hred.sort fun i c hi hc => by rw [hl] at hi; rw [hm i c hi hc]; exact h3 i c hi hc
    rw [hl] at hs this
    exact HasRank.same ⟨M', q', hs⟩ this
  · refine ⟨k + 1, .inr rfl, ?_⟩
    have hKr := hel.ok.2 K
    obtain ⟨s, hs0, hs1, hs2⟩ := inv_ex (p := P) (x := cur.getD K 0) hp (by omega) (by omega)
    obtain ⟨t1, t2, t3⟩ := hel.more hP2 hred hok (by omega) hK0 hKn hs2
    have hlen : (clearL P K out (scaleL P s cur) out.length ++ [scaleL P s cur]).length = out.length + 1 := by simp [clearL_length]
    obtain ⟨M', q', hs⟩ := t1.sort fun i c hi hc => (t2 i (by omega)).2 c
    have hk : out.length + 1 = k + 1 := by omega
    rw [hk] at hs t3 hsp
    exact HasRank.same ⟨M', q', hs⟩ (hsp.trans t3)

/-- the ranks of the first rows -/
theorem ranks_ex {P : Int} {C : Nat} {M : Nat → Nat → Int} (hp : primeOk P = true) (R : Nat) (hr : ∀ i j, i < R → j < C → 0 ≤ M i j ∧ M i j < P) :
    ∃ f : Nat → Nat, f 0 = 0 ∧ (∀ n, n ≤ R → HasRank P C n M (f n)) ∧ ∀ n, n < R → f (n + 1) = f n ∨ f (n + 1) = f n + 1 := by
  obtain ⟨hP2, hP7⟩ := primeOk_range hp
  have hex : ∀ n, n ≤ R → ∃ k, HasRank P C n M k := by
    intro n
    induction n with
    | zero => exact fun _ => ⟨0, .zero _ _ _⟩
    | succ n ih =>
      intro hn
      obtain ⟨k, hk⟩ := ih (by omega)
      obtain ⟨k', _, hk'⟩ := hk.more hp (M n) (hr n · (by omega))
      exact ⟨k', hk'.congr fun i j hi hj => by unfold snocM; split; rfl; rw [show i = n by omega]⟩
  refine ⟨fun n => if h : n ≤ R then Classical.choose (hex n h) else 0, ?_, fun n hn => ?_, fun n hn => ?_⟩
  · simp only [Nat.zero_le, dif_pos]
    exact (Classical.choose_spec (hex 0 (Nat.zero_le _))).one hP2 (.zero _ _ _)
  · simp only [hn, dif_pos]
    exact Classical.choose_spec (hex n hn)
  · simp only [show n ≤ R by omega, show n + 1 ≤ R by omega, dif_pos]
    have h1 := Classical.choose_spec (hex n (by omega))
    have h2 := Classical.choose_spec (hex (n + 1) (by omega))
    generalize Classical.choose (hex n (by omega)) = a at *
    generalize Classical.choose (hex (n + 1) (by omega)) = b at *
    obtain ⟨k', hk, hk'⟩ := h1.more hp (M n) (hr n · hn)
    have := (hk'.congr (M1 := M) fun i j hi hj => by unfold snocM; split; rfl; rw [show i = n by omega]).one hP2 h2
    omega
theorem steps_le {f : Nat → Nat} {R : Nat} (h : ∀ n, n < R → f (n + 1) = f n ∨ f (n + 1) = f n + 1) : ∀ d n, n + d ≤ R → f n ≤ f (n + d) ∧ f (n + d) ≤ f n + d
  | 0, n, _ => ⟨Nat.le_refl _, Nat.le_refl _⟩
  | d + 1, n, hd => by
    have a := steps_le h d n (by omega)
    have b := h (n + d) (by omega)
    have e : n + (d + 1) = n + d + 1 := by omega
    rw [e]
    omega
theorem HasRank.le {P : Int} {C R k : Nat} {M : Nat → Nat → Int} (hp : primeOk P = true) (hr : ∀ i j, i < R → j < C → 0 ≤ M i j ∧ M i j < P) (h : HasRank P C R M k) : k ≤ R := by
  obtain ⟨f, f0, f1, f2⟩ := ranks_ex hp R hr
  have := h.one (primeOk_range hp).1 (f1 R (Nat.le_refl _))
  have a := steps_le f2 R 0 (by omega)
  rw [Nat.zero_add] at a
  omega
theorem asc_bound {n C : Nat} {q : Nat → Nat} (h : ∀ i k, i < k → k < n → q i < q k) (hl : ∀ i, i < n → q i < C) : n ≤ C := by
  have : ∀ i, i < n → i ≤ q i := by
    intro i
    induction i with
    | zero => exact fun _ => Nat.zero_le _
    | succ i ih =>
      intro hi
      have a := ih (by omega)
      have b := h i (i + 1) (by omega) hi
      omega
  rcases Nat.eq_zero_or_pos n with e | e
  · omega
  · have a := this (n - 1) (by omega)
    have b := hl (n - 1) (by omega)
    omega
theorem HasRank.leC {P : Int} {C R k : Nat} {M : Nat → Nat → Int} (h : HasRank P C R M k) : k ≤ C := by
  obtain ⟨M', q, h1, h2, _⟩ := h
  exact asc_bound h2 h1.lt
/-- where the rank is the number of rows, so it is for the first of them -/
theorem HasRank.part {P : Int} {C R i : Nat} {M : Nat → Nat → Int} (hp : primeOk P = true) (hr : ∀ i j, i < R → j < C → 0 ≤ M i j ∧ M i j < P) (h : HasRank P C R M R) (hi : i ≤ R) : HasRank P C i M i := by
  obtain ⟨f, f0, f1, f2⟩ := ranks_ex hp R hr
  have e := h.one (primeOk_range hp).1 (f1 R (Nat.le_refl _))
  have a := steps_le f2 i 0 (by omega)
  have b := steps_le f2 (R - i) i (by omega)
  rw [Nat.zero_add] at a
  rw [show i + (R - i) = R by omega] at b
  have := f1 i hi
  rwa [show f i = i by omega] at this

/-- the first i rows of one, and the first j rows of another one behind them -/
def stackM (i : Nat) (A B : Nat → Nat → Int) (t : Nat) : Nat → Int := if t < i then A t else B (t - i)
theorem stackM_lt {i t : Nat} {A B : Nat → Nat → Int} (h : t < i) : stackM i A B t = A t := by unfold stackM; rw [if_pos h]
theorem stackM_ge {i t : Nat} {A B : Nat → Nat → Int} (h : ¬ t < i) : stackM i A B t = B (t - i) := by unfold stackM; rw [if_neg h]
theorem snocM_lt {n t : Nat} {M : Nat → Nat → Int} {r : Nat → Int} (h : t < n) : snocM n M r t = M t := by unfold snocM; rw [if_pos h]
theorem snocM_at (n : Nat) (M : Nat → Nat → Int) (r : Nat → Int) : snocM n M r n = r := by unfold snocM; rw [if_neg (Nat.lt_irrefl _)]
theorem stackM_rng {P : Int} {C i j : Nat} {A B : Nat → Nat → Int} (ha : ∀ t c, t < i → c < C → 0 ≤ A t c ∧ A t c < P) (hb : ∀ t c, t < j → c < C → 0 ≤ B t c ∧ B t c < P) :
    ∀ t c, t < i + j → c < C → 0 ≤ stackM i A B t c ∧ stackM i A B t c < P := fun t c ht hc => by
  unfold stackM
  split
  · exact ha t c (by assumption) hc
  · exact hb _ c (by omega) hc
/-- a row more in the first one: the rank is the same or one more -/
theorem stack_step {P : Int} {C i j k k' : Nat} {A B : Nat → Nat → Int} (hp : primeOk P = true) (hr : ∀ c, c < C → 0 ≤ A i c ∧ A i c < P)
    (h : HasRank P C (i + j) (stackM i A B) k) (h' : HasRank P C (i + 1 + j) (stackM (i + 1) A B) k') : k' = k ∨ k' = k + 1 := by
  obtain ⟨m, hm, h2⟩ := h.more hp (A i) hr
  have hs : SameSp P C (i + 1 + j) (stackM (i + 1) A B) (i + j + 1) (snocM (i + j) (stackM i A B) (A i)) := by
    refine SameSp.perm (fun t => if t < i then t else if t = i then i + j else t - 1) (fun t => if t < i then t else if t = i + j then i else t + 1) (fun t ht => ?_) (fun t ht => ?_)
    · by_cases h1 : t < i
      · simp only [h1, if_true]
        rw [stackM_lt (show t < i + 1 by omega), snocM_lt (show t < i + j by omega), stackM_lt h1]
        exact ⟨by omega, .refl _ _ _⟩
      · by_cases h2 : t = i
        · subst h2
          simp only [h1, if_false, if_true]
          rw [stackM_lt (show t < t + 1 by omega), snocM_at]
          exact ⟨by omega, .refl _ _ _⟩
        · simp only [h1, h2, if_false]
          rw [stackM_ge (show ¬ t < i + 1 by omega), snocM_lt (show t - 1 < i + j by omega), stackM_ge (show ¬ t - 1 < i by omega), show t - (i + 1) = t - 1 - i by omega]
          exact ⟨by omega, .refl _ _ _⟩
    · by_cases h1 : t < i
      · simp only [h1, if_true]
        rw [snocM_lt (show t < i + j by omega), stackM_lt h1, stackM_lt (show t < i + 1 by omega)]
        exact ⟨by omega, .refl _ _ _⟩
      · by_cases h2 : t = i + j
        · subst h2
          simp only [h1, if_false, if_true]
          rw [snocM_at, stackM_lt (show i < i + 1 by omega)]
          exact ⟨by omega, .refl _ _ _⟩
        · simp only [h1, h2, if_false]
          rw [snocM_lt (show t < i + j by omega), stackM_ge h1, stackM_ge (show ¬ t + 1 < i + 1 by omega), show t + 1 - (i + 1) = t - i by omega]
          exact ⟨by omega, .refl _ _ _⟩
  have := h'.one (primeOk_range hp).1 (h2.same hs)
  omega

end Go.Proofs.Ytoodgbflaaabmaa

namespace Go.Proofs.Ytoodgbflaaabmaa
set_option linter.all false
open Go.RowKit

/-- it is a flag -/
def IsFl (P R C : Int) (D : List Int) : Prop := mxOk P R C D = true ∧ R = C ∧ RkIs P R C D R
theorem fk_yes {P R C : Int} {D : List Int} (h : IsFl P R C D) : Classical.epsilon (FkIs P R C D) = true := (FkIs.eps (b := true) ⟨fun _ => h, fun _ => rfl⟩).symm
theorem fk_no {P R C : Int} {D : List Int} (h : ¬ IsFl P R C D) : Classical.epsilon (FkIs P R C D) = false := (FkIs.eps (b := false) ⟨fun e => (by cases e), fun h2 => absurd h2 h⟩).symm

theorem implFlag_yes (P R C : Int) (d : Value) (D : List Int) (h : IsFl P R C D) (w : World) (hd : Ints w d D) :
    Calls Try.prog 40 #[.agg #[.int .i64 P, .int .i64 R, .int .i64 C, d]] w fun e w' => e = .returned (.bool true) ∧ Below w.heap.size w w' := by
  have := implFlagOk_any P R C d D w hd
  rwa [fk_yes h] at this
theorem implFlag_no (P R C : Int) (d : Value) (D : List Int) (h : ¬ IsFl P R C D) (w : World) (hd : Ints w d D) :
    Calls Try.prog 40 #[.agg #[.int .i64 P, .int .i64 R, .int .i64 C, d]] w fun e w' => e = .returned (.bool false) ∧ Below w.heap.size w w' := by
  have := implFlagOk_any P R C d D w hd
  rwa [fk_no h] at this

theorem IsFl.facts {P R C : Int} {D : List Int} (h : IsFl P R C D) : ∃ n : Nat, R = n ∧ C = n ∧ 1 ≤ n ∧ n ≤ 7 ∧ D.length = n * n ∧ (∀ x ∈ D, 0 ≤ x ∧ x < P) ∧ 2 ≤ P ∧ P ≤ 7 ∧ primeOk P = true ∧ HasRank P n n (mf n fun t => D.getD t 0) n := by
  obtain ⟨h1, h2, h3⟩ := h
  obtain ⟨r, c, rfl, rfl, hr, hc0, hc, hlD, hD, hP2, hP7, hpr⟩ := mxOk_facts h1
  obtain rfl := Int.ofNat.inj h2
  unfold RkIs at h3
  rw [if_pos h1] at h3
  obtain ⟨n, e, _, hn⟩ := h3
  obtain rfl := Int.ofNat.inj e
  simp only [Int.toNat_natCast] at hn
  exact ⟨r, rfl, rfl, hc0, hc, hlD, hD, hP2, hP7, hpr, hn⟩

end Go.Proofs.Ytoodgbflaaabmaa

namespace Go.Proofs.Ytoodgbflaaabmaa
set_option linter.all false
open Go.RowKit

/-- a row r less multiples of the first k rows of X, such that it has 0 where they begin -/
def elN (P : Int) (X : Nat → Nat → Int) (q : Nat → Nat) (r : Nat → Int) : Nat → Nat → Int
  | 0, j => r j
  | k + 1, j => (elN P X q r k j + (P - elN P X q r k (q k)) * X k j) % P
theorem elN_congr {P : Int} {n : Nat} {X X' : Nat → Nat → Int} {q q' : Nat → Nat} {r : Nat → Int} : ∀ k, (∀ l, l < k → q l < n) → (∀ l, l < k → q l = q' l) → (∀ l j, l < k → j < n → X l j = X' l j) → ∀ j, j < n → elN P X q r k j = elN P X' q' r k j
  | 0, _, _, _, j, _ => rfl
  | k + 1, h0, h1, h2, j, hj => by
    have ih := elN_congr (P := P) (r := r) k (fun l hl => h0 l (by omega)) (fun l hl => h1 l (by omega)) (fun l j hl hj => h2 l j (by omega) hj)
    unfold elN
    rw [ih j hj, ih (q k) (h0 k (by omega)), h1 k (by omega), h2 k j (by omega) hj]
theorem elN_rng {P : Int} {n : Nat} {X : Nat → Nat → Int} {q : Nat → Nat} {r : Nat → Int} (hP : 2 ≤ P) (hr : ∀ j, j < n → 0 ≤ r j ∧ r j < P) : ∀ k j, j < n → 0 ≤ elN P X q r k j ∧ elN P X q r k j < P
  | 0, j, hj => hr j hj
  | k + 1, j, _ => ⟨Int.emod_nonneg _ (by omega), Int.emod_lt_of_pos _ (by omega)⟩

/-- row k of the normal form -/
def NfRow (P : Int) (n : Nat) (M0 X : Nat → Nat → Int) (q : Nat → Nat) (k : Nat) : Prop :=
  q k < n ∧ (∀ j, j < q k → elN P X q (M0 k) k j = 0) ∧ elN P X q (M0 k) k (q k) ≠ 0 ∧ ∃ v : Int, v * elN P X q (M0 k) k (q k) % P = 1 ∧ ∀ j, j < n → X k j = v * elN P X q (M0 k) k j % P
def NfUp (P : Int) (n : Nat) (M0 X : Nat → Nat → Int) (q : Nat → Nat) (i : Nat) : Prop := ∀ k, k < i → NfRow P n M0 X q k
theorem inv_one {P x v v' y : Int} (h : v * x % P = 1) (h' : v' * x % P = 1) : v * y % P = v' * y % P := by
  have h1 : P ∣ v * x - 1 := by have := Int.dvd_self_sub_emod (x := v * x) (m := P); rwa [h] at this
  have h2 : P ∣ v' * x - 1 := by have := Int.dvd_self_sub_emod (x := v' * x) (m := P); rwa [h'] at this
  have h3 : P ∣ v - v' := by
    have a : P ∣ v' * (v * x - 1) := Int.dvd_mul_of_dvd_right h1
    have b : P ∣ v * (v' * x - 1) := Int.dvd_mul_of_dvd_right h2
    have e : v * (v' * x - 1) - v' * (v * x - 1) = -(v - v') := by
      have c : v * (v' * x) = v' * (v * x) := by rw [← Int.mul_assoc, ← Int.mul_assoc, Int.mul_comm v v']
      rw [Int.mul_sub, Int.mul_sub, c, Int.mul_one, Int.mul_one]
      omega
    have := Int.dvd_sub b a
    rw [e] at this
    have := Int.dvd_neg.2 this
    rwa [Int.neg_neg] at this
  have h4 : P ∣ v * y - v' * y := by rw [← Int.sub_mul]; exact Int.dvd_mul_of_dvd_left h3
  exact Int.emod_eq_emod_iff_emod_sub_eq_zero.2 (Int.emod_eq_zero_of_dvd h4)
theorem NfUp.one {P : Int} {n : Nat} {M0 X X' : Nat → Nat → Int} {q q' : Nat → Nat} (hP : 2 ≤ P) : ∀ i, NfUp P n M0 X q i → NfUp P n M0 X' q' i → (∀ k, k < i → q k = q' k) ∧ ∀ k j, k < i → j < n → X k j = X' k j
  | 0, _, _ => ⟨fun k hk => absurd hk (Nat.not_lt_zero _), fun k j hk => absurd hk (Nat.not_lt_zero _)⟩
  | i + 1, h, h' => by
    obtain ⟨h1, h2⟩ := NfUp.one hP i (fun k hk => h k (by omega)) (fun k hk => h' k (by omega))
    obtain ⟨a1, a2, a3, v, a4, a5⟩ := h i (by omega)
    obtain ⟨b1, b2, b3, v', b4, b5⟩ := h' i (by omega)
    have he := elN_congr (P := P) (r := M0 i) i (fun l hl => (h l (by omega)).1) h1 h2
    have hq : q i = q' i := by
      rcases Nat.lt_trichotomy (q i) (q' i) with hlt | e | hlt
      · exact absurd (by rw [he _ a1]; exact b2 _ hlt) a3
      · exact e
      · exact absurd (by rw [← he _ b1]; exact a2 _ hlt) b3
    refine ⟨fun k hk => ?_, fun k j hk hj => ?_⟩
    · by_cases e : k = i
      · subst e; exact hq
      · exact h1 k (by omega)
    · by_cases e : k = i
      · subst e
        rw [a5 j hj, b5 j hj, he j hj]
        rw [he _ a1, hq] at a4
        exact inv_one a4 b4
      · exact h2 k j (by omega) hj
theorem NfUp.rng {P : Int} {n i : Nat} {M0 X : Nat → Nat → Int} {q : Nat → Nat} (hP : 2 ≤ P) (h : NfUp P n M0 X q i) : ∀ k j, k < i → j < n → 0 ≤ X k j ∧ X k j < P := fun k j hk hj => by
  obtain ⟨_, _, _, v, _, a5⟩ := h k hk
  rw [a5 j hj]
  exact ⟨Int.emod_nonneg _ (by omega), Int.emod_lt_of_pos _ (by omega)⟩
/-- the row with others spans what it spanned -/
theorem elN_same {P : Int} {n i : Nat} {X : Nat → Nat → Int} {q : Nat → Nat} {r : Nat → Int} : ∀ t, t ≤ i → SameSp P n (i + 1) (snocM i X r) (i + 1) (snocM i X (elN P X q r t))
  | 0, _ => .of_eqv fun k hk => .of_eq fun j hj => by
    unfold snocM
    split <;> rfl
  | t + 1, ht => by
    refine (elN_same (q := q) t (by omega)).trans (SameSp.elim t (by omega) (fun k => if k = i then P - elN P X q r t (q t) else 0) ?_ fun k hk hne => ?_)
    · rw [snocM_lt (by omega), snocM_lt (by omega)]; exact .refl _ _ _
    · by_cases e : k = i
      · subst e
        simp only [if_true]
        rw [snocM_at, snocM_at, snocM_lt (show t < k by omega)]
        exact Eqv.emod (p := P) (C := n) (fun j => elN P X q r t j + (P - elN P X q r t (q t)) * X t j)
      · simp only [e, if_false]
        rw [snocM_lt (by omega), snocM_lt (by omega)]
        exact .of_eq fun j _ => by omega
theorem SameSp.snocR {P : Int} {C i : Nat} {M X : Nat → Nat → Int} (h : SameSp P C i M i X) : SameSp P C (i + 1) M (i + 1) (snocM i X (M i)) :=
  h.snoc (by rw [snocM_at]; exact .refl _ _ _) fun k hk => by rw [snocM_lt hk]; exact .refl _ _ _
theorem NfUp.same {P : Int} {n : Nat} {M0 X : Nat → Nat → Int} {q : Nat → Nat} (hP : 2 ≤ P) : ∀ i, NfUp P n M0 X q i → SameSp P n i M0 i X
  | 0, _ => ⟨fun k hk => absurd hk (Nat.not_lt_zero _), fun k hk => absurd hk (Nat.not_lt_zero _)⟩
  | i + 1, h => by
    have ih := NfUp.same hP i (fun k hk => h k (by omega))
    obtain ⟨a1, a2, a3, v, a4, a5⟩ := h i (by omega)
    refine (ih.snocR.trans (elN_same (q := q) i (Nat.le_refl _))).trans (SameSp.scale i (by omega) v (elN P X q (M0 i) i (q i)) ?_ ?_ fun k hk hne => ?_)
    · have := Int.dvd_self_sub_emod (x := v * elN P X q (M0 i) i (q i)) (m := P)
      rwa [a4] at this
    · rw [snocM_at]
      intro j hj
      rw [a5 j hj]
      exact Eqv.emod (p := P) (C := n) (fun j => v * elN P X q (M0 i) i j) j hj
    · rw [snocM_lt (by omega)]; exact .refl _ _ _
/-- of a flag, something is left of the row -/
theorem NfUp.left {P : Int} {n i : Nat} {M0 X : Nat → Nat → Int} {q : Nat → Nat} (hp : primeOk P = true) (hM : ∀ k j, j < n → 0 ≤ M0 k j ∧ M0 k j < P) (hn : HasRank P n n M0 n) (h : NfUp P n M0 X q i) (hi : i < n) : ¬ ∀ j, j < n → elN P X q (M0 i) i j = 0 := fun h0 => by
  have hP := (primeOk_range hp).1
  have h1 := hn.part hp (fun k j _ hj => hM k j hj) (show i + 1 ≤ n by omega)
  have h2 := (NfUp.same hP i h).snocR.trans (elN_same (q := q) i (Nat.le_refl _))
  have h3 : SameSp P n i X (i + 1) (snocM i X (elN P X q (M0 i) i)) := by
    refine ⟨fun k hk => ?_, fun k hk => ?_⟩
    · have : Sp P n (i + 1) (snocM i X (elN P X q (M0 i) i)) (snocM i X (elN P X q (M0 i) i) k) := .row (by omega)
      rwa [snocM_lt hk] at this
    · by_cases e : k < i
      · rw [snocM_lt e]; exact .row e
      · obtain rfl : k = i := by omega
        rw [snocM_at]
        exact Sp.zero.eqv (.of_eq fun j hj => (h0 j hj).symm)
  have h4 := (h1.same h2.symm).same h3
  have := h4.le hp (h.rng hP)
  omega
theorem NfUp.snoc {P : Int} {n i : Nat} {M0 X X' : Nat → Nat → Int} {q q' : Nat → Nat} (h : NfUp P n M0 X q i) (hX : ∀ k j, k < i → j < n → X' k j = X k j) (hq : ∀ k, k < i → q' k = q k) (hr : NfRow P n M0 X' q' i) : NfUp P n M0 X' q' (i + 1) := fun k hk => by
  by_cases e : k = i
  · subst e; exact hr
  · have hki : k < i := by omega
    obtain ⟨a1, a2, a3, v, a4, a5⟩ := h k hki
    have he := elN_congr (P := P) (r := M0 k) k (fun l hl => (h l (by omega)).1) (fun l hl => (hq l (by omega)).symm) (fun l j hl hj => (hX l j (by omega) hj).symm)
    refine ⟨by rw [hq k hki]; exact a1, fun j hj => ?_, ?_, v, ?_, fun j hj => ?_⟩
    · rw [hq k hki] at hj; rw [← he j (by omega)]; exact a2 j hj
    · rw [hq k hki, ← he _ a1]; exact a3
    · rw [hq k hki, ← he _ a1]; exact a4
    · rw [hX k j hki hj, ← he j hj]; exact a5 j hj

end Go.Proofs.Ytoodgbflaaabmaa

namespace Go.Proofs.Ytoodgbflaaabmaa
set_option linter.all false

theorem Sp.narrow {p : Int} {C C' n : Nat} {M : Nat → Nat → Int} {v : Nat → Int} (h : Sp p C n M v) (hC : C' ≤ C) : Sp p C' n M v := by
  induction h with
  | zero => exact .zero
  | add c i hi _ ih => exact .add c i hi ih
  | eqv _ e ih => exact ih.eqv fun j hj => e j (by omega)
theorem Sp.mono {p : Int} {C n n' : Nat} {M : Nat → Nat → Int} {v : Nat → Int} (h : Sp p C n M v) (hn : n ≤ n') : Sp p C n' M v :=
  h.trans fun i hi => .row (by omega)
theorem Sp.congr {p : Int} {C n : Nat} {M M' : Nat → Nat → Int} {v : Nat → Int} (h : Sp p C n M v) (e : ∀ i, i < n → Eqv p C (M i) (M' i)) : Sp p C n M' v :=
  h.trans fun i hi => (Sp.row hi).eqv (e i hi).symm
theorem Sp.sub {p : Int} {C n : Nat} {M : Nat → Nat → Int} {u v : Nat → Int} (h : Sp p C n M u) (h2 : Sp p C n M v) : Sp p C n M (fun j => u j - v j) :=
  (h.comb (-1) h2).eqv (.of_eq fun j _ => by omega)
/-- a sum over rows, with numbers before them -/
theorem Sp.coef {p : Int} {C n : Nat} {M : Nat → Nat → Int} {v : Nat → Int} (h : Sp p C n M v) : ∃ c : Nat → Int, ∀ j, j < C → p ∣ v j - sm n (fun i => c i * M i j) := by
  induction h with
  | zero => exact ⟨fun _ => 0, fun j _ => by rw [sm_congr (g := fun _ => 0) (fun i _ => by simp), sm_zero]; simp⟩
  | @add v c i hi _ ih =>
    obtain ⟨d, hd⟩ := ih
    refine ⟨fun k => d k + c * if i = k then 1 else 0, fun j hj => ?_⟩
    have e : sm n (fun k => (d k + c * if i = k then 1 else 0) * M k j) = sm n (fun k => d k * M k j) + c * M i j := by
      rw [← sm_one n i hi c (fun k => M k j), ← sm_add]
      exact sm_congr fun k _ => by rw [Int.add_mul]
    rw [e]
    have := hd j hj
    rwa [show ∀ a b x : Int, a + x - (b + x) = a - b by intros; omega]
  | eqv _ e ih =>
    obtain ⟨d, hd⟩ := ih
    refine ⟨d, fun j hj => ?_⟩
    have := Int.dvd_sub (hd j hj) (e j hj)
    rwa [show ∀ a b x : Int, a - x - (a - b) = b - x by intros; omega] at this
theorem sp_sm {p : Int} {C n m : Nat} {M : Nat → Nat → Int} (c : Nat → Int) (hm : m ≤ n) : Sp p C n M (fun j => sm m (fun i => c i * M i j)) := by
  induction m with
  | zero => exact .zero
  | succ m ih => exact .add (c m) m (by omega) (ih (by omega))
theorem Sp.of_coef {p : Int} {C n : Nat} {M : Nat → Nat → Int} {v : Nat → Int} (c : Nat → Int) (h : ∀ j, j < C → p ∣ v j - sm n (fun i => c i * M i j)) : Sp p C n M v :=
  (sp_sm c (Nat.le_refl n)).eqv fun j hj => by
    have := Int.dvd_neg.2 (h j hj)
    rwa [Int.neg_sub] at this
theorem sm_split (a b : Nat) (f : Nat → Int) : sm (a + b) f = sm a f + sm b (fun i => f (a + i)) := by
  induction b with
  | zero => simp [sm]
  | succ b ih => rw [← Nat.add_assoc, sm, sm, ih]; omega

/-- the rows are independent -/
def Indep (p : Int) (C n : Nat) (M : Nat → Nat → Int) : Prop := ∀ c : Nat → Int, (∀ j, j < C → p ∣ sm n (fun i => c i * M i j)) → ∀ i, i < n → p ∣ c i
theorem Indep.part {p : Int} {C n m : Nat} {M : Nat → Nat → Int} (h : Indep p C n M) (hm : m ≤ n) : Indep p C m M := fun c hc i hi => by
  have := h (fun k => if k < m then c k else 0) (fun j hj => ?_) i (by omega)
  · simpa [hi] using this
  · obtain ⟨d, rfl⟩ : ∃ d, n = m + d := ⟨n - m, by omega⟩
    have e1 : sm d (fun k => (if m + k < m then c (m + k) else 0) * M (m + k) j) = 0 := (sm_congr (g := fun _ => 0) fun k _ => by simp [show ¬ m + k < m by omega]).trans (sm_zero d)
    have e2 : sm m (fun k => (if k < m then c k else 0) * M k j) = sm m (fun k => c k * M k j) := sm_congr fun k hk => by simp [hk]
    rw [sm_split, e1, e2, Int.add_zero]
    exact hc j hj
/-- a reduced form's rows are -/
theorem Red.indep {p : Int} {C n : Nat} {M : Nat → Nat → Int} {q : Nat → Nat} (h : Red p C n M q) : Indep p C n M := fun c hc i hi => by
  have := hc (q i) (h.lt i hi)
  rw [sm_congr (g := fun k => (c i * if i = k then 1 else 0) * (fun _ => 1) k) (fun k hk => ?_), sm_one n i hi] at this
  · simpa using this
  · rw [h.unit k i hk hi]
    by_cases e : i = k
    · subst e; simp
    · simp [e, show ¬ k = i from fun x => e x.symm]

/-- ascending from below n to below n': no more -/
theorem asc_into {n n' : Nat} {s : Nat → Nat} (h : ∀ i k, i < k → k < n → s i < s k) (hl : ∀ i, i < n → s i < n') : n ≤ n' := asc_bound h hl
theorem asc_same {n : Nat} {s : Nat → Nat} (h : ∀ i k, i < k → k < n → s i < s k) (hl : ∀ i, i < n → s i < n) : ∀ i, i < n → s i = i := by
  have lo : ∀ i, i < n → i ≤ s i := by
    intro i
    induction i with
    | zero => exact fun _ => Nat.zero_le _
    | succ i ih =>
      intro hi
      have a := ih (by omega)
      have b := h i (i + 1) (by omega) hi
      omega
  have hi' : ∀ d i, i < n → n - 1 - i = d → s i ≤ i := by
    intro d
    induction d with
    | zero => intro i hi e; have := hl i hi; omega
    | succ d ih =>
      intro i hi e
      have a := ih (i + 1) (by omega) (by omega)
      have b := h i (i + 1) (by omega) (by omega)
      omega
  intro i hi
  have := lo i hi
  have := hi' _ i hi rfl
  omega

/-- the columns of a span within another one -/
theorem red_cols {p : Int} {C n n' : Nat} {M M' : Nat → Nat → Int} {q q' : Nat → Nat} (hp : 2 ≤ p) (h : Red p C n M q) (h' : Red p C n' M' q') (ha : ∀ i k, i < k → k < n → q i < q k) (ha' : ∀ i k, i < k → k < n' → q' i < q' k)
    (hs : ∀ i, i < n' → Sp p C n M (M' i)) : ∃ s : Nat → Nat, (∀ k, k < n' → s k < n ∧ q (s k) = q' k) ∧ ∀ i k, i < k → k < n' → s i < s k := by
  have hc : ∀ k, ∃ i, k < n' → i < n ∧ q i = q' k := fun k => by
    by_cases hk : k < n'
    · obtain ⟨i, hi, e⟩ := Red.cols h h' hp hs hk
      exact ⟨i, fun _ => ⟨hi, e⟩⟩
    · exact ⟨0, fun x => absurd x hk⟩
  refine ⟨fun k => Classical.choose (hc k), fun k hk => Classical.choose_spec (hc k) hk, fun i k hik hk => ?_⟩
  have a := Classical.choose_spec (hc i) (by omega)
  have b := Classical.choose_spec (hc k) hk
  have := ha' i k hik hk
  rw [← a.2, ← b.2] at this
  show Classical.choose (hc i) < Classical.choose (hc k)
  generalize Classical.choose (hc i) = x at *
  generalize Classical.choose (hc k) = y at *
  rcases Nat.lt_or_ge x y with e | e
  · exact e
  · rcases Nat.lt_or_eq_of_le e with e | e
    · have := ha y x e a.1; omega
    · subst e; omega
/-- no greater rank -/
theorem IsRed.le {P : Int} {C R R' n n' : Nat} {M0 M1 M M' : Nat → Nat → Int} {q q' : Nat → Nat} (hP : 2 ≤ P) (h : IsRed P C R M0 n M q) (h' : IsRed P C R' M1 n' M' q') (hs : ∀ i, i < R' → Sp P C R M0 (M1 i)) : n' ≤ n := by
  have hs' : ∀ i, i < n' → Sp P C n M (M' i) := fun i hi => ((h'.2.2.2.2 i hi).trans hs).trans h.2.2.2.1
  obtain ⟨s, h1, h2⟩ := red_cols hP h.1 h'.1 h.2.1 h'.2.1 hs'
  exact asc_into h2 fun k hk => (h1 k hk).1
theorem HasRank.le_of_sub {P : Int} {C R R' n n' : Nat} {M0 M1 : Nat → Nat → Int} (hP : 2 ≤ P) (h : HasRank P C R M0 n) (h' : HasRank P C R' M1 n') (hs : ∀ i, i < R' → Sp P C R M0 (M1 i)) : n' ≤ n := by
  obtain ⟨M, q, h⟩ := h
  obtain ⟨M', q', h'⟩ := h'
  exact h.le hP h' hs
/-- a span within another one of the same rank is the same -/
theorem HasRank.same_of_sub {P : Int} {C R R' n : Nat} {M0 M1 : Nat → Nat → Int} (hP : 2 ≤ P) (h : HasRank P C R M0 n) (h' : HasRank P C R' M1 n) (hs : ∀ i, i < R' → Sp P C R M0 (M1 i)) : SameSp P C R' M1 R M0 := by
  obtain ⟨M, q, h⟩ := h
  obtain ⟨M', q', h'⟩ := h'
  have hs' : ∀ i, i < n → Sp P C n M (M' i) := fun i hi => ((h'.2.2.2.2 i hi).trans hs).trans h.2.2.2.1
  obtain ⟨s, h1, h2⟩ := red_cols hP h.1 h'.1 h.2.1 h'.2.1 hs'
  have h3 := asc_same h2 fun k hk => (h1 k hk).1
  have hq : ∀ k, k < n → q' k = q k := fun k hk => by have := (h1 k hk).2; rw [h3 k hk] at this; exact this.symm
  refine ⟨hs, fun i hi => ?_⟩
  -- a row of the greater one, less its part in the smaller one, has 0 at all columns
  have hrow : ∀ v, Sp P C n M v → Sp P C n M' v := fun v hv => by
    have hd : Sp P C n M (fun j => v j - sm n (fun i => v (q i) * M' i j)) := hv.sub ((sp_sm _ (Nat.le_refl n)).trans hs')
    have hz : ∀ k, k < n → P ∣ v (q k) - sm n (fun i => v (q i) * M' i (q k)) := fun k hk => by
      rw [sm_congr (g := fun i => (v (q k) * if k = i then 1 else 0) * (fun _ => 1) i) (fun i hi => ?_), sm_one n k hk]
      · simp
      · rw [← hq k hk, h'.1.unit i k hi hk]
        by_cases e : k = i
        · subst e; simp [hq k hk]
        · simp [e, show ¬ i = k from fun x => e x.symm]
    refine .of_coef (fun i => v (q i)) fun j hj => ?_
    have hco := h.1.coord hd j hj
    have : P ∣ sm n (fun i => (v (q i) - sm n (fun t => v (q t) * M' t (q i))) * M i j) := sm_dvd fun i hi => Int.dvd_mul_of_dvd_left (hz i hi)
    have := Int.dvd_add hco this
    rwa [Int.sub_add_cancel] at this
  exact (hrow _ (h.2.2.2.1 i hi)).trans h'.2.2.2.2
/-- independent rows are as many as the rank -/
theorem Indep.rank {P : Int} {C R : Nat} {M0 : Nat → Nat → Int} (hp : primeOk P = true) (hr : ∀ i j, i < R → j < C → 0 ≤ M0 i j ∧ M0 i j < P) (h : Indep P C R M0) : HasRank P C R M0 R := by
  obtain ⟨hP, _⟩ := primeOk_range hp
  obtain ⟨f, f0, f1, f2⟩ := ranks_ex hp R hr
  have h3 : ∀ n, n < R → f (n + 1) = f n + 1 := fun n hn => by
    rcases f2 n hn with e | e
    · exfalso
      have a := f1 n (by omega)
      have b := f1 (n + 1) hn
      rw [e] at b
      have hs := b.same_of_sub hP a fun i hi => .row (by omega)
      obtain ⟨c, hc⟩ := (hs.2 n (by omega)).coef
      have := h.part hn (fun k => if k = n then 1 else - c k) (fun j hj => ?_) n (by omega)
      · simp at this
        exact Red.not_dvd_one hP this
      · have := hc j hj
        rw [sm]
        simp only [if_true, Int.one_mul]
        rw [sm_congr (g := fun i => 0 - c i * M0 i j) (fun k hk => by rw [if_neg (by omega), Int.neg_mul]; omega), ← sm_sub, sm_zero]
        rwa [show ∀ a b : Int, 0 - a + b = b - a by intros; omega]
    · exact e
  have h4 : ∀ n, n ≤ R → f n = n := by
    intro n
    induction n with
    | zero => exact fun _ => f0
    | succ n ih => intro hn; rw [h3 n hn, ih (by omega)]
  have := f1 R (Nat.le_refl _)
  rwa [h4 R (Nat.le_refl _)] at this

end Go.Proofs.Ytoodgbflaaabmaa

namespace Go.Proofs.Ytoodgbflaaabmaa
set_option linter.all false
open Go.RowKit

/-- n rows of C numbers, one behind the other -/
def flatM (n C : Nat) (M : Nat → Nat → Int) : List Int := (List.range (n * C)).map fun t => M (t / C) (t % C)
theorem flatM_length (n C : Nat) (M : Nat → Nat → Int) : (flatM n C M).length = n * C := by simp [flatM]
theorem flatM_congr {n C : Nat} {M M' : Nat → Nat → Int} (h : ∀ i j, i < n → j < C → M i j = M' i j) : flatM n C M = flatM n C M' := by
  unfold flatM
  refine List.map_congr_left fun t ht => ?_
  have ht : t < n * C := by simpa using ht
  have hC : 0 < C := by
    rcases Nat.eq_zero_or_pos C with h0 | h0
    · rw [h0] at ht; omega
    · exact h0
  exact h _ _ (Nat.div_lt_of_lt_mul (by rwa [Nat.mul_comm])) (Nat.mod_lt _ hC)
theorem flatM_mf (n C : Nat) (h : Nat → Int) : flatM n C (mf C h) = (List.range (n * C)).map h := by
  unfold flatM mf
  refine List.map_congr_left fun t _ => ?_
  rw [Nat.mul_comm, Nat.div_add_mod]
theorem flatM_rows {C : Nat} {L : List (List Int)} (h : ∀ i, i < L.length → (L.getD i []).length = C) : flatM L.length C (mt L) = L.flatten := by
  have hL : ∀ r ∈ L, r.length = C := fun r hr => by
    obtain ⟨i, hi, rfl⟩ := List.mem_iff_getElem.1 hr
    have := h i hi
    rwa [List.getD_eq_getElem?_getD, List.getElem?_eq_getElem hi, Option.getD_some] at this
  have hl : L.flatten.length = L.length * C := flat_length hL
  apply List.ext_getElem (by rw [flatM_length, hl])
  intro t h1 h2
  rw [flatM_length] at h1
  have hC : 0 < C := by
    rcases Nat.eq_zero_or_pos C with h0 | h0
    · rw [h0] at h1; omega
    · exact h0
  have e := flat_getD (t := t) hC hL
  rw [List.getD_eq_getElem?_getD, List.getElem?_eq_getElem h2, Option.getD_some] at e
  rw [e]
  simp [flatM, mt]

/-- what SpanOf returns -/
def SpIs (P R C : Int) (D : List Int) (m : Mx) : Prop :=
  if mxOk P R C D = true then ∃ (n : Nat) (M : Nat → Nat → Int) (q : Nat → Nat), IsRed P C.toNat R.toNat (mf C.toNat fun t => D.getD t 0) n M q ∧ (n : Int) ≤ R ∧ m = ⟨P, n, C, flatM n C.toNat M⟩ else m = mxZero
theorem SpIs.one {P R C : Int} {D : List Int} {m m' : Mx} (h : SpIs P R C D m) (h' : SpIs P R C D m') : m = m' := by
  unfold SpIs at h h'
  by_cases e : mxOk P R C D = true
  · rw [if_pos e] at h h'
    obtain ⟨n, M, q, h1, _, rfl⟩ := h
    obtain ⟨n', M', q', h1', _, rfl⟩ := h'
    obtain ⟨_, _, _, _, _, _, _, _, _, hP, _⟩ := mxOk_facts e
    obtain ⟨e1, _, e3⟩ := h1.one hP h1'
    subst e1
    rw [flatM_congr e3]
  · rw [if_neg e] at h h'
    rw [h, h']
instance : Nonempty Mx := ⟨mxZero⟩
/-- .. or the empty one, were there none -/
def SpQ (P R C : Int) (D : List Int) (m : Mx) : Prop := SpIs P R C D m ∨ ((∀ m', ¬ SpIs P R C D m') ∧ m = mxZero)
theorem SpQ.ex (P R C : Int) (D : List Int) : ∃ m, SpQ P R C D m := by
  by_cases h : ∃ m, SpIs P R C D m
  · obtain ⟨m, h⟩ := h
    exact ⟨m, .inl h⟩
  · exact ⟨mxZero, .inr ⟨fun m hm => h ⟨m, hm⟩, rfl⟩⟩
theorem SpIs.eps {P R C : Int} {D : List Int} {m : Mx} (h : SpIs P R C D m) : m = Classical.epsilon (SpQ P R C D) := by
  rcases Classical.epsilon_spec (SpQ.ex P R C D) with h2 | ⟨h2, _⟩
  · exact h.one h2
  · exact absurd h (h2 m)
theorem SpIs.len {P R C : Int} {D : List Int} {m : Mx} (h : SpIs P R C D m) : m.D.length ≤ 1000 := by
  unfold SpIs at h
  by_cases e : mxOk P R C D = true
  · rw [if_pos e] at h
    obtain ⟨n, M, q, _, hn, rfl⟩ := h
    obtain ⟨r, c, rfl, rfl, hr, _, hc, _⟩ := mxOk_facts e
    rw [flatM_length]
    have : n * c ≤ 7 * 7 := Nat.mul_le_mul (by omega) hc
    simp only [Int.toNat_natCast]
    omega
  · rw [if_neg e] at h
    rw [h]; simp [mxZero]

theorem span_len (P R C : Int) (D : List Int) : (Classical.epsilon (SpQ P R C D)).D.length ≤ 1000 := by
  rcases Classical.epsilon_spec (SpQ.ex P R C D) with h | ⟨_, h⟩
  · exact h.len
  · rw [h]; simp [mxZero]

theorem ints_take {w : World} {p : Option Addr} {k N : Nat} {h : Nat → Int} {K : Nat} (hI : Ints w (.slice p N k) ((List.range N).map h)) (hK : K ≤ N) : Ints w (.slice p K k) ((List.range K).map h) := by
  obtain ⟨q, cap, e, ⟨h1, h2⟩, hc⟩ := hI
  injection e with e1 e2 e3
  subst e1 e3
  rw [List.length_map, List.length_range] at h1 hc
  refine ⟨p, k, by simp, ⟨by simp; omega, h2⟩, fun h0 => ?_⟩
  rw [List.length_map, List.length_range] at h0 
  obtain ⟨b, off, e, hx⟩ := hc (by omega)
  refine ⟨b, off, e, fun j hj => ?_⟩
  rw [List.length_map, List.length_range] at hj
  rw [hx j (by omega)]
  simp [iv, List.getD_eq_getElem?_getD, hj, show j < N by omega]

set_option maxRecDepth 100000 in
set_option maxHeartbeats 1000000 in
theorem l7Top_any (P : Int) (R C n : Nat) (p : Option Addr) (k N : Nat) (h : Nat → Int) (w : World) (hI : Ints w (.slice p N k) ((List.range N).map h)) (hN : N = R * C) (hn : n ≤ R) (hR : R ≤ 14) (hC : C ≤ 14) :
    Calls Try.prog 95 #[.agg #[.int .i64 P, .int .i64 (R : Int), .int .i64 (C : Int), .slice p N k], .int .i64 (n : Int)] w (RetM w ⟨P, n, C, (List.range (n * C)).map h⟩) := by
  obtain ⟨K, hK, r1, r2⟩ := mul_named n C (by have := Nat.mul_le_mul (show n ≤ 14 by omega) hC; omega)
  have R1 := Lib.hid r1
  have R2 := Lib.hid r2
  clear r1 r2
  have hKN : K ≤ N := by rw [hK, hN]; exact Nat.mul_le_mul_right _ hn
  have hRC : R * C ≤ 14 * 14 := Nat.mul_le_mul hR hC
  have hN196 : N ≤ 196 := by omega
  rw [← hK]
  have HI := Lib.hid (ints_take hI hKN)
  obtain ⟨_, _, e, ⟨hk1, hk2⟩, hpp⟩ := hI
  injection e with e1 e2 e3
  clear e2
  subst e1 e3
  rw [List.length_map, List.length_range] at hk1 hpp
  unfold maxLen at hk2
  have hpc : p = none → K = 0 := fun hp => by
    rcases Nat.eq_zero_or_pos N with h0 | h0
    · omega
    · obtain ⟨b, off, e, _⟩ := hpp h0
      rw [hp] at e; cases e
  obtain ⟨z1, z2⟩ := box2_start w 34 34 P R C (.slice p N k)
  have hB0 := below_alloc2 w (.cells #[.int .i64 P, .int .i64 R, .int .i64 C, .slice p N k] 34) (.cells #[.int .i64 0, .int .i64 0, .int .i64 0, .slice none 0 0] 34)
  have Z1 := Lib.hid z1
  have Z2 := Lib.hid z2
  have HB0 := Lib.hid hB0
  clear z1 z2 hB0 hpp hK hN hRC
  have h0K : (0 : Int) ≤ (K : Int) := by omega
  have hKk : (K : Int) ≤ (k : Int) := by omega
  have hKl : ((List.range K).map h).length = K := by simp
  generalize (List.range K).map h = L at *
  obtain rfl : L.length = K := hKl
  go_enter Try.func95, Try.ntmps95
  go_wp2_with fail
  have hs0 : ((w.alloc (.cells #[.int .i64 P, .int .i64 R, .int .i64 C, .slice p N k] 34)).alloc (.cells #[.int .i64 0, .int .i64 0, .int .i64 0, .slice none 0 0] 34)).heap.size = w.heap.size + 1 + 1 := by simp
  generalize (w.alloc (.cells #[.int .i64 P, .int .i64 R, .int .i64 C, .slice p N k] 34)).alloc (.cells #[.int .i64 0, .int .i64 0, .int .i64 0, .slice none 0 0] 34) = w2 at *
  obtain ⟨c0, c1, c2, c3, cf, hz⟩ := blk4 Z1.out
  have hne1 : w.heap.size ≠ w.heap.size + 1 := by omega
  have hne2 : w.heap.size ≤ w.heap.size + 1 := by omega
  have hl6 : L.length ≤ 1000000 := by omega
  have f1 := R1.out
  have f2 := R2.out
  go_region_held3 (fun w' => ((w'.cell? ⟨w.heap.size, 0, none⟩ = some (.int .i64 P) ∧ w'.cell? ⟨w.heap.size, 1, none⟩ = some (.int .i64 (R : Int)) ∧ w'.cell? ⟨w.heap.size, 2, none⟩ = some (.int .i64 (C : Int)) ∧ w'.cell? ⟨w.heap.size, 3, none⟩ = some (.slice p N k)) ∧ ∃ y0 y1 y2 y3, w'.heap[w.heap.size + 1]? = some (.cells #[y0, y1, y2, y3] 34 (0, 0))) ∧ Below w.heap.size w w')
    (first | exact ⟨⟨⟨c0, c1, c2, c3⟩, _, _, _, _, Z2.out⟩, HB0.out.drew⟩ | exact keep5 hb1 (by assumption) | exact keep5_set hne1 hne2 _ _ _ _ (by assumption))
    (first | (go_at_call 91; refine (l1Ints_any _ L _ (held_ints HI.out (by assumption)) hl6).mono ?_; rintro e w' ⟨u, rfl, ho, hb1⟩; obtain ⟨pu, ku, rfl, _, _⟩ := ho.shape; obtain ⟨y0, y1, y2, y3, hy⟩ := s5_blk (by assumption); obtain ⟨d0, d1, d2, d3, df, dz⟩ := blk4 (blk_later hy hb1)))
  clear f1 f2
  have hds : w2.drew.heap.size = w2.heap.size := rfl
  have hbz : Below w.heap.size w w' := HB0.out.trans ((below_of_drew hb1).mono (by omega))
  have hsz := hb1.size
  have hz4 := set4_all (blk_later Z2.out (below_of_drew hb1)) (.int .i64 P) (.int .i64 (n : Int)) (.int .i64 (C : Int)) (.slice pu L.length ku)
  have ho4 : OwnI 3 w' (w.heap.size + 1 + 1) w'.heap.size (.slice pu L.length ku) L := ho.mono (by omega) (Nat.le_refl _)
  have Hz4 := Lib.hid hz4
  have Ho4 := Lib.hid ho4
  have Hbz := Lib.hid hbz
  clear hz4 ho4 hbz ho hb1 hy d0 d1 d2 d3 df
  obtain ⟨f0, f1, f2, f3, ff, fz⟩ := blk4 Hz4.out
  go_wp2_with fail
  refine bodyPost_ret (v := .agg #[.int .i64 P, .int .i64 (n : Int), .int .i64 (C : Int), .slice pu L.length ku]) (by simp [results, Try.results95, go_sem, f0, f1, f2, f3, fz]) rfl ⟨_, rfl, ?_, ?_⟩
  · exact (own_set4 Ho4.out (.inl (by omega)) _ _ _ _).mono (by omega) (by simp only [size_setCell]; omega)
  · exact below_set4 Hbz.out (by omega) _ _ _ _

theorem span_flat {P : Int} {C : Nat} {L : List (List Int)} (h : RowsOk P C L) : flatM L.length C (mt L) = L.flatten := flatM_rows fun i hi => (h i hi).1
theorem span_small {P : Int} {C r : Nat} {L : List (List Int)} (h : RowsOk P C L) (hl : L.length ≤ r) (hr : r ≤ 14) (hC : C ≤ 14) : L.flatten.length ≤ 1000000 := by
  rw [← span_flat h, flatM_length]
  have := Nat.mul_le_mul (Nat.le_trans hl hr) hC
  omega

/-- a matrix, in new memory, which is the span's reduced form -/
def RetSp (w : World) (P : Int) (C R : Nat) (M0 : Nat → Nat → Int) (e : Ending) (w' : World) : Prop :=
  ∃ (n : Nat) (M : Nat → Nat → Int) (q : Nat → Nat), IsRed P C R M0 n M q ∧ n ≤ R ∧ RetM w ⟨P, n, C, flatM n C M⟩ e w'

set_option maxRecDepth 100000 in
set_option maxHeartbeats 1000000 in
theorem l7Span_any (P : Int) (R C : Nat) (d : Value) (D : List Int) (w : World) (hd : Ints w d D) (hD : D.length = R * C) (hrg : ∀ t, 0 ≤ D.getD t 0 ∧ D.getD t 0 < P) (hP : primeOk P = true) (hR : R ≤ 14) (hC : C ≤ 14) :
    Calls Try.prog 83 #[.agg #[.int .i64 P, .int .i64 (R : Int), .int .i64 (C : Int), d]] w (RetSp w P C R (mf C fun t => D.getD t 0)) := by
  have HL := Lib.hid (fun W (hW : Ints W d D) => l7Reduce_any P R C d D W hW hD hrg hP hR hC)
  have Hd := Lib.hid hd
  have hDl : D.length ≤ 196 := by have := Nat.mul_le_mul hR hC; omega
  have HD := Lib.hid hD
  obtain ⟨p, cap, rfl, _⟩ := hd
  clear hrg hP hD
  obtain ⟨z1, z2⟩ := box2_start w 34 34 P R C (.slice p D.length cap)
  have hB0 := below_alloc2 w (.cells #[.int .i64 P, .int .i64 R, .int .i64 C, .slice p D.length cap] 34) (.cells #[.int .i64 0, .int .i64 0, .int .i64 0, .slice none 0 0] 34)
  have Z1 := Lib.hid z1
  have Z2 := Lib.hid z2
  have HB0 := Lib.hid hB0
  clear z1 z2 hB0
  go_enter Try.func83, Try.ntmps83
  go_wp2_with fail
  have hs0 : ((w.alloc (.cells #[.int .i64 P, .int .i64 R, .int .i64 C, .slice p D.length cap] 34)).alloc (.cells #[.int .i64 0, .int .i64 0, .int .i64 0, .slice none 0 0] 34)).heap.size = w.heap.size + 1 + 1 := by simp
  generalize (w.alloc (.cells #[.int .i64 P, .int .i64 R, .int .i64 C, .slice p D.length cap] 34)).alloc (.cells #[.int .i64 0, .int .i64 0, .int .i64 0, .slice none 0 0] 34) = w2 at *
  refine (HL.out w2 (Hd.out.below HB0.out)).mono ?_
  rintro e w3 ⟨u, v, h, n, qf, rfl, hu, hv, hb, hn, hrg', hred, hasc, hz, hs⟩
  obtain ⟨N, hN⟩ : ∃ N, N = R * C := ⟨_, rfl⟩
  rw [← hN] at hu
  have HN := Lib.hid hN
  clear hN
  obtain ⟨p1, k1, rfl, _, _⟩ := hu.shape
  obtain ⟨p2, k2, rfl, _, _⟩ := hv.shape
  have hr : IsRed P C R (mf C fun t => D.getD t 0) n (mf C h) qf := ⟨hred, hasc, fun i c hi hc => hrg' i c (Nat.lt_of_lt_of_le hi hn) hc, hs⟩
  have Hr := Lib.hid hr
  have hs3 := hb.size
  have Z2' := Lib.hid (blk_later Z2.out hb)
  have Hb := Lib.hid (HB0.out.trans (hb.mono (by omega)))
  have hI : Ints w3 (.slice p1 N k1) ((List.range N).map h) := by
    have e : ((List.range N).map h).length = N := by simp
    have : OwnI 3 w3 w2.heap.size w3.heap.size (.slice p1 N k1) ((List.range N).map h) := by
      refine OwnF.ints ?_
      rw [e]
      exact hu.congr fun t ht => by simp [iv, List.getD_eq_getElem?_getD, ht]
    exact this.ints
  have HI := Lib.hid hI
  clear hu hv hb hrg' hred hasc hz hs hr hI
  go_wp2_with fail
  refine (l7Top_any P R C n p1 k1 N h _ (HI.out.below (below_alloc _ _)) HN.out hn hR hC).mono ?_
  rintro e w5 ⟨u5, rfl, ho5', hb5⟩
  have ho5 : OwnI 3 w5 _ w5.heap.size u5 ((List.range (n * C)).map h) := ho5'
  have e6 : (List.range (n * C)).map h = flatM n C (mf C h) := (flatM_mf n C h).symm
  rw [e6] at ho5
  have hfl := flatM_length n C (mf C h)
  obtain ⟨L, hL⟩ : ∃ L, L = flatM n C (mf C h) := ⟨_, rfl⟩
  rw [← hL] at ho5
  obtain ⟨p6, k6, rfl, _, _⟩ := ho5.shape
  have hb6 := (below_alloc w3 _).trans (hb5.mono (by simp))
  have hs5 := hb6.size
  have Z5 := Lib.hid (blk_later Z2'.out hb6)
  have Hb5 := Lib.hid (Hb.out.trans (hb6.mono (by omega)))
  have Ho5 : Hid (OwnI 3 w5 (w.heap.size + 1 + 1) w5.heap.size (.slice p6 L.length k6) L) := Lib.hid (ho5.mono (by simp; omega) (Nat.le_refl _))
  have HLL := Lib.hid hL
  clear ho5 ho5' hb5 hb6 e6 hL hfl
  obtain ⟨d0, d1, d2, d3, df, dz⟩ := blk4 Z5.out
  obtain ⟨f0, f1, f2, f3, ff, fz⟩ := blk4 (set4_all Z5.out (.int .i64 P) (.int .i64 (n : Int)) (.int .i64 (C : Int)) (.slice p6 L.length k6))
  go_wp2_with fail
  refine bodyPost_ret (v := .agg #[.int .i64 P, .int .i64 (n : Int), .int .i64 (C : Int), .slice p6 L.length k6]) (by simp [results, Try.results83, go_sem, f0, f1, f2, f3, fz]) rfl ⟨n, mf C h, qf, Hr.out, hn, ?_⟩
  rw [← HLL.out]
  refine ⟨_, rfl, ?_, ?_⟩
  · exact (own_set4 Ho5.out (.inl (by omega)) _ _ _ _).mono (by omega) (by simp only [size_setCell]; omega)
  · exact below_set4 Hb5.out (by omega) _ _ _ _

set_option maxRecDepth 100000 in
set_option maxHeartbeats 1000000 in
theorem implSpanOf_ex (P R C : Int) (d : Value) (D : List Int) (w : World) (hd : Ints w d D) :
    Calls Try.prog 54 #[.agg #[.int .i64 P, .int .i64 R, .int .i64 C, d]] w fun e w' => ∃ m, SpIs P R C D m ∧ RetM w m e w' := by
  have Hd := Lib.hid hd
  obtain ⟨p, cap, rfl, ⟨_, mx⟩, _⟩ := hd
  unfold maxLen at mx
  obtain ⟨z1, z2⟩ := box2_start w 34 34 P R C (.slice p D.length cap)
  have hB0 := below_alloc2 w (.cells #[.int .i64 P, .int .i64 R, .int .i64 C, .slice p D.length cap] 34) (.cells #[.int .i64 0, .int .i64 0, .int .i64 0, .slice none 0 0] 34)
  have Z1 := Lib.hid z1
  have Z2 := Lib.hid z2
  have HB0 := Lib.hid hB0
  clear z1 z2 hB0
  cases h1 : mxOk P R C D with
  | false =>
    have H1 := Lib.hid h1
    clear h1
    go_enter Try.func54, Try.ntmps54
    go_wp2_with fail
    have hs0 : ((w.alloc (.cells #[.int .i64 P, .int .i64 R, .int .i64 C, .slice p D.length cap] 34)).alloc (.cells #[.int .i64 0, .int .i64 0, .int .i64 0, .slice none 0 0] 34)).heap.size = w.heap.size + 1 + 1 := by simp
    generalize (w.alloc (.cells #[.int .i64 P, .int .i64 R, .int .i64 C, .slice p D.length cap] 34)).alloc (.cells #[.int .i64 0, .int .i64 0, .int .i64 0, .slice none 0 0] 34) = w2 at *
    refine (implMatrixOk_b _ _ _ _ _ _ H1.out _ (Hd.out.below HB0.out)).mono ?_
    rintro e w3 ⟨rfl, hb⟩
    have Hb := Lib.hid (HB0.out.trans (hb.mono (by omega)))
    have Z3 := Lib.hid (blk_later Z2.out hb)
    clear hb
    obtain ⟨d0, d1, d2, d3, df, dz⟩ := blk4 Z3.out
    obtain ⟨f0, f1, f2, f3, ff, fz⟩ := blk4 (set4_all Z3.out (.int .i64 0) (.int .i64 0) (.int .i64 0) (.slice none 0 0))
    go_wp2_with fail
    refine bodyPost_ret (v := .agg #[.int .i64 0, .int .i64 0, .int .i64 0, .slice none 0 0]) (by simp [results, Try.results54, go_sem, f0, f1, f2, f3, fz]) rfl ⟨mxZero, by unfold SpIs; rw [H1.out]; rfl, ⟨_, rfl, ?_, ?_⟩⟩
    · exact ⟨World.ownsRow_nil _ _ _ _, fun k hk => by simp [Value.ownBlock] at hk⟩
    · exact below_set4 Hb.out (by omega) _ _ _ _
  | true =>
    obtain ⟨r, c, rfl, rfl, hr, hc0, hc, hlD, hD, hP2, hP7, hpr⟩ := mxOk_facts h1
    have H1 := Lib.hid h1
    have Hrg := Lib.hid (fun t => getD_range hD (by omega) t)
    have HlD := Lib.hid hlD
    have Hpr := Lib.hid hpr
    clear h1 hlD hD hpr
    go_enter Try.func54, Try.ntmps54
    go_wp2_with fail
    have hs0 : ((w.alloc (.cells #[.int .i64 P, .int .i64 (r : Int), .int .i64 (c : Int), .slice p D.length cap] 34)).alloc (.cells #[.int .i64 0, .int .i64 0, .int .i64 0, .slice none 0 0] 34)).heap.size = w.heap.size + 1 + 1 := by simp
    generalize (w.alloc (.cells #[.int .i64 P, .int .i64 (r : Int), .int .i64 (c : Int), .slice p D.length cap] 34)).alloc (.cells #[.int .i64 0, .int .i64 0, .int .i64 0, .slice none 0 0] 34) = w2 at *
    obtain ⟨b0, b1, b2, b3, bf, bz⟩ := blk4 Z1.out
    refine (implMatrixOk_b _ _ _ _ _ _ H1.out _ (Hd.out.below HB0.out)).mono ?_
    rintro e w3 ⟨rfl, hb⟩
    have Hb := Lib.hid (HB0.out.trans (hb.mono (by omega)))
    have Z3 := Lib.hid (blk_later Z2.out hb)
    have Z4 := Lib.hid (blk_later Z1.out hb)
    have hs3 := hb.size
    have hs3w : w.heap.size + 1 + 1 ≤ w3.heap.size := by omega
    have hne1 : w.heap.size ≠ w.heap.size + 1 := by omega
    have hne2 : w.heap.size ≤ w.heap.size + 1 := by omega
    clear hb b0 b1 b2 b3 bf bz
    obtain ⟨b0, b1, b2, b3, bf, bz⟩ := blk4 Z4.out
    go_wp2_with fail
    go_region_held3 (fun w' => ((w'.cell? ⟨w.heap.size, 0, none⟩ = some (.int .i64 P) ∧ w'.cell? ⟨w.heap.size, 1, none⟩ = some (.int .i64 (r : Int)) ∧ w'.cell? ⟨w.heap.size, 2, none⟩ = some (.int .i64 (c : Int)) ∧ w'.cell? ⟨w.heap.size, 3, none⟩ = some (.slice p D.length cap)) ∧ ∃ y0 y1 y2 y3, w'.heap[w.heap.size + 1]? = some (.cells #[y0, y1, y2, y3] 34 (0, 0))) ∧ Below w.heap.size w w')
      (first | exact ⟨⟨⟨b0, b1, b2, b3⟩, _, _, _, _, Z3.out⟩, Hb.out.drew⟩ | exact keep5 hb1 (by assumption) | exact keep5_set hne1 hne2 _ _ _ _ (by assumption))
      (first
        | (go_at_call 41; refine (lines_any P r c _ D _ (held_ints Hd.out (by assumption)) (by omega) (by omega) hc0 HlD.out).mono ?_; rintro e w' ⟨u, rfl, hoL, hb1⟩; obtain ⟨pu, ku, rfl, _, _⟩ := hoL.shape; have hbz : Below w3.heap.size w3 w' := (by first | exact hb1 | exact below_of_drew hb1))
        | (go_at_call 79; refine (reduced_any _ (rowsOf r c D) c P _ (OwnII.below hoL (by first | exact Below.refl _ _ | exact (Below.refl _ _).drew)).rd (rowsOf_ok HlD.out Hrg.out) Hpr.out (by rw [rowsOf_length]; omega) (by omega)).mono ?_; rintro e w' ⟨v, L, q, rfl, hoR, hb1, hR1, hR2, hR3, hR4, hR5⟩; obtain ⟨pv, kv, rfl, hkv1, hkv2⟩ := hoR.shape; have hbz : Below w3.heap.size w3 w' := (by first | exact below_trans hbz hb1 | exact below_trans hbz (below_of_drew hb1)); have hfl := span_flat hR1; rw [rowsOf_length] at hR5)
        | (go_at_call 45; refine (matrixOf_any P c _ L _ (OwnII.below hoR (by first | exact Below.refl _ _ | exact (Below.refl _ _).drew)).rd (span_small hR1 hR5 (by omega) (by omega))).mono ?_; rintro e w' ⟨um, rfl, hoM', hb1⟩; have hsb := hbz.size; have hbz : Below w3.heap.size w3 w' := (by first | exact below_trans hbz hb1 | exact below_trans hbz (below_of_drew hb1)); have hoM : OwnI 3 w' (w.heap.size + 1 + 1) w'.heap.size um L.flatten := OwnI.mono hoM' (Nat.le_trans hs3w hsb) (Nat.le_refl _); clear hoM'; obtain ⟨FL, hFL⟩ : ∃ FL, FL = L.flatten := ⟨_, rfl⟩; rw [← hFL] at hoM hfl; have HFL := Lib.hid hFL; clear hFL; obtain ⟨pm, km, rfl, _, _⟩ := hoM.shape; obtain ⟨y0, y1, y2, y3, hy⟩ := s5_blk (by assumption); obtain ⟨d0, d1, d2, d3, df, dz⟩ := blk4 (blk_later hy hb1)))
    have hsz := hbz.size
    have hred : IsRed P c r (mf c fun t => D.getD t 0) L.length (mt L) q := ⟨hR2, hR3, fun i j hi hj => (hR1 i hi).2 j, rows_flat.trans hR4⟩
    have Hred := Lib.hid hred
    have Hz4 := Lib.hid (set4_all (blk_later Z3.out hbz) (.int .i64 P) (.int .i64 (L.length : Int)) (.int .i64 (c : Int)) (.slice pm FL.length km))
    have HoM := Lib.hid hoM
    have Hbz := Lib.hid (Hb.out.trans (Below.mono hbz (by omega)))
    have Hfl := Lib.hid hfl
    clear hbz hoM hb1 hy d0 d1 d2 d3 df hred hR1 hR2 hR3 hR4 hfl
    obtain ⟨f0, f1, f2, f3, ff, fz⟩ := blk4 Hz4.out
    go_wp2_with fail
    refine bodyPost_ret (v := .agg #[.int .i64 P, .int .i64 (L.length : Int), .int .i64 (c : Int), .slice pm FL.length km]) (by simp [results, Try.results54, go_sem, f0, f1, f2, f3, fz]) rfl ⟨⟨P, L.length, c, FL⟩, ?_, ⟨_, rfl, ?_, ?_⟩⟩
    · unfold SpIs
      rw [if_pos H1.out]
      exact ⟨L.length, mt L, q, Hred.out, by omega, by rw [← Hfl.out]; rfl⟩
    · exact (own_set4 HoM.out (.inl (by omega)) _ _ _ _).mono (by omega) (by simp only [size_setCell]; omega)
    · exact below_set4 Hbz.out (by omega) _ _ _ _

theorem implSpanOf_any (P R C : Int) (d : Value) (D : List Int) (w : World) (hd : Ints w d D) :
    Calls Try.prog 54 #[.agg #[.int .i64 P, .int .i64 R, .int .i64 C, d]] w (RetM w (Classical.epsilon (SpQ P R C D))) :=
  (implSpanOf_ex P R C d D w hd).mono fun e w' ⟨m, h1, h2⟩ => h1.eps ▸ h2
end Go.Proofs.Ytoodgbflaaabmaa
