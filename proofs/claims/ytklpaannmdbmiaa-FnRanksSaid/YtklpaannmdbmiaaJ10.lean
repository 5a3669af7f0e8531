/-
  RelativePosition, on both sides.
  The normal form of a flag: the reference's, walked.
  The normal form of a flag: the program's, walked.
  NormalFlag and FlagPerm, on both sides.
  Positions of flags with the same members: plain law.
  The draws: the cursor over the bytes, a number below another one.
  The draws: a new cursor.
  The draws: a cursor, a prime, a matrix.
  The draws: a permutation.
  The draws: a permutation, the identity.
-/
import Derived.Test.YtklpaannmdbmiaaJ9
import Derived.Test.YtklpaannmdbmiaaJ8
import Derived.Test.YtklpaannmdbmiaaJ6
import Derived.Test.YtklpaannmdbmiaaJ1
import Derived.Deep.RegionLaw
import Derived.Test.YtklpaannmdbmiaaJ4
import Derived.Test.YtklpaannmdbmiaaJ5
import Derived.Test.YtklpaannmdbmiaaJ3
namespace Go.Proofs.Ytklpaannmdbmiaa
set_option linter.all false
open Go.RowKit

/-- two flags that lie in one -/
def FfIs (P R C : Int) (D : List Int) (P' R' C' : Int) (D' : List Int) : Prop := IsFl P R C D ∧ IsFl P' R' C' D' ∧ P = P' ∧ C = C'
/-- the column at which row i of one comes in -/
def RpAt (P : Int) (C : Nat) (A B : Nat → Nat → Int) (i : Nat) (x : Int) : Prop :=
  ∃ j : Nat, x = j ∧ j < C ∧ (∃ a b, CmIs P C A (i + 1) B (j + 1) a ∧ CmIs P C A i B (j + 1) b ∧ a ≠ b) ∧ ∀ k, k < j → ∀ a b, CmIs P C A (i + 1) B (k + 1) a → CmIs P C A i B (k + 1) b → a = b
theorem CmIs.ex {P : Int} {C i j : Nat} {A B : Nat → Nat → Int} (hp : primeOk P = true) (ha : ∀ t c, t < i → c < C → 0 ≤ A t c ∧ A t c < P) (hb : ∀ t c, t < j → c < C → 0 ≤ B t c ∧ B t c < P) : ∃ m, CmIs P C A i B j m := by
  obtain ⟨f, _, h, _⟩ := ranks_ex hp (i + j) (stackM_rng ha hb)
  exact ⟨_, f (i + j), h _ (Nat.le_refl _), rfl⟩
theorem RpAt.one {P : Int} {C i : Nat} {A B : Nat → Nat → Int} {x x' : Int} (h : RpAt P C A B i x) (h' : RpAt P C A B i x') : x = x' := by
  obtain ⟨j, rfl, hj, ⟨a, b, h1, h2, h3⟩, h4⟩ := h
  obtain ⟨j', rfl, hj', ⟨a', b', h1', h2', h3'⟩, h4'⟩ := h'
  rcases Nat.lt_trichotomy j j' with h | h | h
  · exact absurd (h4' j h a b h1 h2) h3
  · rw [h]
  · exact absurd (h4 j' h a' b' h1' h2') h3'
/-- a row more: the dimension is the same or one more -/
theorem CmIs.step {P : Int} {C i j : Nat} {A B : Nat → Nat → Int} {a b : Int} (hp : primeOk P = true) (ha : ∀ c, c < C → 0 ≤ A i c ∧ A i c < P) (h : CmIs P C A (i + 1) B j a) (h' : CmIs P C A i B j b) : a = b ∨ a = b + 1 := by
  obtain ⟨k, h1, rfl⟩ := h
  obtain ⟨k', h1', rfl⟩ := h'
  rcases stack_step hp ha h1' h1 with e | e
  · right; omega
  · left; omega
theorem HasRank.stackB {P : Int} {C : Nat} {A B : Nat → Nat → Int} (hp : primeOk P = true) (ha : ∀ t c, c < C → 0 ≤ A t c ∧ A t c < P) (hb : ∀ t c, c < C → 0 ≤ B t c ∧ B t c < P) (h : HasRank P C C B C) :
    ∀ i k, HasRank P C (i + C) (stackM i A B) k → C ≤ k
  | 0, k, hk => by
    have h2 : HasRank P C C B k := by
      rw [Nat.zero_add] at hk
      exact hk.congr fun t c _ _ => by rw [stackM_ge (Nat.not_lt_zero _)]; rfl
    exact Nat.le_of_eq (h.one (primeOk_range hp).1 h2)
  | i + 1, k, hk => by
    obtain ⟨m, k0, h0, _⟩ := CmIs.ex (i := i) (j := C) hp (fun t c _ hc => ha t c hc) (fun t c _ hc => hb t c hc)
    have := HasRank.stackB hp ha hb h i k0 h0
    rcases stack_step hp (fun c hc => ha i c hc) h0 hk with e | e <;> omega
/-- at the last column the dimensions differ -/
theorem CmIs.last {P : Int} {C i : Nat} {A B : Nat → Nat → Int} {a b : Int} (hp : primeOk P = true) (ha : ∀ t c, c < C → 0 ≤ A t c ∧ A t c < P) (hb : ∀ t c, c < C → 0 ≤ B t c ∧ B t c < P) (h : HasRank P C C B C)
    (h1 : CmIs P C A (i + 1) B C a) (h2 : CmIs P C A i B C b) : a ≠ b := by
  obtain ⟨k, k1, rfl⟩ := h1
  obtain ⟨k', k1', rfl⟩ := h2
  have e1 := HasRank.stackB hp ha hb h _ _ k1
  have e2 := HasRank.stackB hp ha hb h _ _ k1'
  have e3 := k1.leC
  have e4 := k1'.leC
  omega
theorem mf_rng {P : Int} {C : Nat} {D : List Int} (h : ∀ t, 0 ≤ D.getD t 0 ∧ D.getD t 0 < P) : ∀ t c, c < C → 0 ≤ mf C (fun t => D.getD t 0) t c ∧ mf C (fun t => D.getD t 0) t c < P := fun t c _ => h _

def RpUp (P : Int) (C : Nat) (A B : Nat → Nat → Int) (l : List Int) : Prop := ∀ i, i < l.length → RpAt P C A B i (l.getD i 0)
/-- what RelativePosition returns -/
def RpIs (P R C : Int) (D : List Int) (P' R' C' : Int) (D' : List Int) (l : List Int) : Prop :=
  (FfIs P R C D P' R' C' D' ∧ l.length = C.toNat ∧ RpUp P C.toNat (mf C.toNat fun t => D.getD t 0) (mf C.toNat fun t => D'.getD t 0) l) ∨ (¬ FfIs P R C D P' R' C' D' ∧ l = [])
theorem RpIs.one {P R C : Int} {D : List Int} {P' R' C' : Int} {D' : List Int} (l l' : List Int) (h : RpIs P R C D P' R' C' D' l) (h' : RpIs P R C D P' R' C' D' l') : l = l' := by
  rcases h with ⟨t, h1, h2⟩ | ⟨t, rfl⟩
  · rcases h' with ⟨_, h1', h2'⟩ | ⟨t', _⟩
    · exact getD_eq_list (by rw [h1, h1']) fun j hj => (h2 j (by omega)).one (h2' j (by omega))
    · exact absurd t t'
  · rcases h' with ⟨t', _⟩ | ⟨_, rfl⟩
    · exact absurd t' t
    · rfl
theorem RpIs.len {P R C : Int} {D : List Int} {P' R' C' : Int} {D' : List Int} (l : List Int) (h : RpIs P R C D P' R' C' D' l) : l.length ≤ 1000 := by
  rcases h with ⟨t, h1, h2⟩ | ⟨t, rfl⟩
  · obtain ⟨r, c, _, rfl, _, _, hc, _⟩ := mxOk_facts t.1.1
    rw [h1]; simp; omega
  · simp
theorem rel_len (P R C : Int) (D : List Int) (P' R' C' : Int) (D' : List Int) : (Classical.epsilon (LsQ (RpIs P R C D P' R' C' D'))).length ≤ 1000 := LsQ.len RpIs.len
theorem RpUp.snoc {P : Int} {C i : Nat} {A B : Nat → Nat → Int} {l : List Int} {x : Int} (h : RpUp P C A B l) (hl : l.length = i) (h1 : RpAt P C A B i x) : RpUp P C A B (l ++ [x]) := fun t ht => by
  rw [List.length_append, List.length_singleton] at ht
  by_cases e : t < l.length
  · rw [show (l ++ [x]).getD t 0 = l.getD t 0 by simp [List.getD_eq_getElem?_getD, List.getElem?_append_left e]]
    exact h t e
  · obtain rfl : t = i := by omega
    subst hl
    rw [show (l ++ [x]).getD l.length 0 = x by simp [List.getD_eq_getElem?_getD]]
    exact h1


end Go.Proofs.Ytklpaannmdbmiaa

namespace Go.Proofs.Ytklpaannmdbmiaa
set_option linter.all false
open Go.RowKit

/-- what l7Normal returns -/
def RetNm (w : World) (P : Int) (n : Nat) (M0 : Nat → Nat → Int) (e : Ending) (w' : World) : Prop :=
  ∃ (u v : Value) (h : Nat → Int) (qf : Nat → Nat), e = .returned (.tuple #[.agg #[.int .i64 P, .int .i64 (n : Int), .int .i64 (n : Int), u], v]) ∧
    OwnF w' w.heap.size w'.heap.size 3 u (n * n) (fun t => .int .i64 (h t)) ∧ OwnF w' w.heap.size w'.heap.size 3 v n (fun k => .int .i64 (qf k : Int)) ∧ Below w.heap.size w w' ∧ NfUp P n M0 (mf n h) qf n

/-- seven cells that a region reads -/
theorem keep7 {W W' : World} {a0 a1 a2 a3 a4 a5 a6 : Addr} {v0 v1 v2 v3 v4 v5 v6 : Value} (hb : Below W.heap.size W W')
    (h : W.cell? a0 = some v0 ∧ W.cell? a1 = some v1 ∧ W.cell? a2 = some v2 ∧ W.cell? a3 = some v3 ∧ W.cell? a4 = some v4 ∧ W.cell? a5 = some v5 ∧ W.cell? a6 = some v6) :
    W'.cell? a0 = some v0 ∧ W'.cell? a1 = some v1 ∧ W'.cell? a2 = some v2 ∧ W'.cell? a3 = some v3 ∧ W'.cell? a4 = some v4 ∧ W'.cell? a5 = some v5 ∧ W'.cell? a6 = some v6 :=
  ⟨cell_below hb h.1, cell_below hb h.2.1, cell_below hb h.2.2.1, cell_below hb h.2.2.2.1, cell_below hb h.2.2.2.2.1, cell_below hb h.2.2.2.2.2.1, cell_below hb h.2.2.2.2.2.2⟩
theorem nm_fin {w wr : World} {T : TypeId} {P : Int} {n : Nat} {d : Value} {q : Nat} {p p5 : Option Addr} {k k5 N : Nat} {h : Nat → Int} {qf : Nat → Nat} {M0 : Nat → Nat → Int} (hN : N = n * n)
    (hrs : RS w T 3 P n n d q p k N h wr) (hpv : OwnF wr (q + 1) wr.heap.size 3 (.slice p5 n k5) n (fun k => .int .i64 (qf k : Int))) (hL : NfUp P n M0 (mf n h) qf n) :
    RetNm w P n M0 (.returned (.tuple #[.agg #[.int .i64 P, .int .i64 (n : Int), .int .i64 (n : Int), .slice p N k], .slice p5 n k5]))
      ((((wr.setCell ⟨w.heap.size + 1, 0, none⟩ (.int .i64 P)).setCell ⟨w.heap.size + 1, 1, none⟩ (.int .i64 (n : Int))).setCell ⟨w.heap.size + 1, 2, none⟩ (.int .i64 (n : Int))).setCell ⟨w.heap.size + 1, 3, none⟩ (.slice p N k)) := by
  obtain ⟨a1, a2, a3, a4, a5, a6⟩ := hrs
  have hq := blk_lt a3
  refine ⟨_, _, h, qf, rfl, ?_, ?_, below_set4 a5 (by omega) _ _ _ _, hL⟩
  · subst hN
    exact ((((a4.setCell (.inl (by show w.heap.size + 1 < _; omega)) _).setCell (.inl (by show w.heap.size + 1 < _; omega)) _).setCell (.inl (by show w.heap.size + 1 < _; omega)) _).setCell (.inl (by show w.heap.size + 1 < _; omega)) _).mono (by omega) (by simp only [size_setCell]; omega)
  · exact ((((hpv.setCell (.inl (by show w.heap.size + 1 < _; omega)) _).setCell (.inl (by show w.heap.size + 1 < _; omega)) _).setCell (.inl (by show w.heap.size + 1 < _; omega)) _).setCell (.inl (by show w.heap.size + 1 < _; omega)) _).mono (by omega) (by simp only [size_setCell]; omega)

end Go.Proofs.Ytklpaannmdbmiaa

namespace Go.Proofs.Ytklpaannmdbmiaa
set_option linter.all false
open Go.RowKit

theorem grown_trans {w w1 w2 : World} {o : Option Nat} (h : w.grownBy w1 o) (h2 : w1.grownBy w2 o) : w.grownBy w2 o :=
  ⟨h2.os.trans h.os, h2.tape.trans h.tape, h2.output.trans h.output, Nat.le_trans h.size h2.size, fun k hk hne => (h2.block k (Nat.lt_of_lt_of_le hk h.size) hne).trans (h.block k hk hne)⟩
theorem grown_below {w w1 : World} {o : Option Nat} (h : Below w.heap.size w w1) : w.grownBy w1 o := ⟨h.os, h.tape, h.output, h.size, fun k hk _ => h.block k hk⟩
theorem OwnI.grown {T : TypeId} {w w' : World} {lo hi : Nat} {v : Value} {xs : List Int} {o : Option Nat} (h : OwnI T w lo hi v xs) (hg : w.grownBy w' o) (hne : ∀ k, v.ownBlock = some k → o ≠ some k) : OwnI T w' lo hi v xs :=
  ⟨ownsRow_of_block h.1 fun k hk => hg.block k (Own.block h hk).2.2 fun e => hne k hk e.symm, h.2⟩
theorem OwnF.grown2 {T : TypeId} {w w' : World} {lo hi n : Nat} {v : Value} {f : Nat → Value} {o : Option Nat} (h : OwnF w lo hi T v n f) (hg : w.grownBy w' o) (hne : ∀ k, v.ownBlock = some k → o ≠ some k) : OwnF w' lo hi T v n f := by
  obtain ⟨xs, h, hf⟩ := h
  exact ⟨xs, ⟨ownsRow_of_block h.1 fun k hk => hg.block k (h.block hk).2.2 fun e => hne k hk e.symm, h.2⟩, hf⟩

/-- the rows of a list as a function -/
def xOf (R : Nat → List Int) (k j : Nat) : Int := (R k).getD j 0
theorem NfRow.piv {P : Int} {n t : Nat} {M0 : Nat → Nat → Int} {R : Nat → List Int} {q : Nat → Nat} (h : NfRow P n M0 (xOf R) q t) (hok : RowOk P n (R t)) : pivL (R t) = q t := by
  obtain ⟨b1, b2, b3, v, b4, b5⟩ := h
  refine pivL_at (by rw [hok.1]; exact b1) ?_ fun j hj => ?_
  · have e : (R t).getD (q t) 0 = _ := b5 (q t) b1
    rw [e, b4]; decide
  · have e : (R t).getD j 0 = _ := b5 j (by omega)
    rw [e, b2 j hj, Int.mul_zero]; rfl
theorem pivot_q (v : Value) (xs : List Int) (Q : Nat) (w : World) (h : Ints w v xs) (hq : pivL xs = (Q : Nat)) :
    Calls Try.prog 45 #[v] w fun e w' => e = .returned (.int .i64 (Q : Int)) ∧ Below w.heap.size w w' := by
  rw [← hq]
  exact (pivot_any v xs w h).mono fun e w' ⟨r1, r2⟩ => ⟨r1, r2.below _⟩
theorem cell_grown {w w' : World} {a : Addr} {v : Value} {g : Nat} (hg : w.grownBy w' (some g)) (hne : a.block ≠ g) (h : w.cell? a = some v) : w'.cell? a = some v := by
  rw [World.cell?_of_block (w := w) (hg.block _ (World.block_lt_of_cell? _ _ h) (fun e => hne (Option.some.inj e)))]
  exact h
/-- what NormalFlag returns -/
def NfIs (P R C : Int) (D : List Int) (m : Mx) (ok : Bool) : Prop :=
  (IsFl P R C D ∧ ok = true ∧ ∃ X q, NfUp P C.toNat (mf C.toNat fun t => D.getD t 0) X q C.toNat ∧ m = ⟨P, C, C, flatM C.toNat C.toNat X⟩) ∨ (¬ IsFl P R C D ∧ ok = false ∧ m = mxZero)
theorem NfIs.one {P R C : Int} {D : List Int} (m : Mx) (b : Bool) (m' : Mx) (b' : Bool) (h : NfIs P R C D m b) (h' : NfIs P R C D m' b') : m = m' ∧ b = b' := by
  rcases h with ⟨t, rfl, X, q, h1, rfl⟩ | ⟨t, rfl, rfl⟩
  · rcases h' with ⟨_, rfl, X', q', h1', rfl⟩ | ⟨t', _, _⟩
    · obtain ⟨n, _, rfl, _, _, _, _, hP, _⟩ := t.facts
      have := (NfUp.one hP _ h1 h1').2
      exact ⟨by rw [flatM_congr this], rfl⟩
    · exact absurd t t'
  · rcases h' with ⟨t', _, _⟩ | ⟨_, rfl, rfl⟩
    · exact absurd t' t
    · exact ⟨rfl, rfl⟩
theorem norm_len (P R C : Int) (D : List Int) : (Classical.epsilon (PrQ (NfIs P R C D))).1.D.length ≤ 1000 := by
  rcases PrQ.spec (NfIs P R C D) with h | ⟨_, h⟩
  · rcases h with ⟨t, _, X, q, _, h⟩ | ⟨_, _, h⟩
    · obtain ⟨n, _, rfl, _, hn, _⟩ := t.facts
      rw [h]
      show (flatM _ _ X).length ≤ 1000
      rw [flatM_length]
      simp only [Int.toNat_natCast]
      have := Nat.mul_le_mul hn hn
      omega
    · rw [h]; simp [mxZero]
  · rw [h]; simp [mxZero]

end Go.Proofs.Ytklpaannmdbmiaa

namespace Go.Proofs.Ytklpaannmdbmiaa
set_option linter.all false
open Go.RowKit

/-- what FlagPerm returns -/
def FpIs (P R C : Int) (D : List Int) (l : List Int) : Prop :=
  (IsFl P R C D ∧ ∃ X q, NfUp P C.toNat (mf C.toNat fun t => D.getD t 0) X q C.toNat ∧ l = (List.range C.toNat).map fun k => (q k : Int)) ∨ (¬ IsFl P R C D ∧ l = [])
theorem FpIs.one {P R C : Int} {D : List Int} (l l' : List Int) (h : FpIs P R C D l) (h' : FpIs P R C D l') : l = l' := by
  rcases h with ⟨t, X, q, h1, rfl⟩ | ⟨t, rfl⟩
  · rcases h' with ⟨_, X', q', h1', rfl⟩ | ⟨t', _⟩
    · obtain ⟨n, _, rfl, _, _, _, _, hP, _⟩ := t.facts
      have := (NfUp.one hP _ h1 h1').1
      refine List.map_congr_left fun k hk => ?_
      rw [this k (by simpa using hk)]
    · exact absurd t t'
  · rcases h' with ⟨t', _⟩ | ⟨_, rfl⟩
    · exact absurd t' t
    · rfl
theorem FpIs.len {P R C : Int} {D : List Int} (l : List Int) (h : FpIs P R C D l) : l.length ≤ 1000 := by
  rcases h with ⟨t, X, q, _, rfl⟩ | ⟨_, rfl⟩
  · obtain ⟨n, _, rfl, _, hn, _⟩ := t.facts
    simp; omega
  · simp
theorem fperm_len (P R C : Int) (D : List Int) : (Classical.epsilon (LsQ (FpIs P R C D))).length ≤ 1000 := LsQ.len FpIs.len
theorem nats_ints {T : TypeId} {w : World} {lo hi n : Nat} {v : Value} {q : Nat → Nat} (h : OwnF w lo hi T v n (fun k => .int .i64 (q k : Int))) : OwnI T w lo hi v ((List.range n).map fun k => (q k : Int)) := by
  refine OwnF.ints ?_
  rw [List.length_map, List.length_range]
  exact h.congr fun k hk => by simp [iv, List.getD_eq_getElem?_getD, hk]


end Go.Proofs.Ytklpaannmdbmiaa

namespace Go.Proofs.Ytklpaannmdbmiaa
set_option linter.all false
open Go.RowKit

theorem cm_same {P : Int} {n : Nat} {A X : Nat → Nat → Int} (hr : ∀ m, m ≤ n → HasRank P n m A m) (hs : ∀ i, i ≤ n → SameSp P n i A i X) {i j : Nat} (hi : i ≤ n) (hj : j ≤ n) : CmIs P n A i X j ((if i ≤ j then i else j : Nat) : Int) := by
  have h : HasRank P n (i + j) (stackM i A X) (if i ≤ j then j else i) := by
    refine (hr _ (by split <;> omega)).same ⟨fun t ht => ?_, fun t ht => ?_⟩
    · by_cases e : t < i
      · rw [stackM_lt e]; exact Sp.row (by split <;> omega)
      · rw [stackM_ge e]
        exact ((hs j hj).2 (t - i) (by omega)).mono (by split <;> omega)
    · by_cases e : i ≤ j
      · rw [if_pos e] at ht
        refine ((hs j hj).1 t ht).trans fun l hl => ?_
        have := Sp.row (p := P) (C := n) (M := stackM i A X) (n := i + j) (i := i + l) (by omega)
        rwa [stackM_ge (by omega), show i + l - i = l from by omega] at this
      · rw [if_neg e] at ht
        have := Sp.row (p := P) (C := n) (M := stackM i A X) (n := i + j) (i := t) (by omega)
        rwa [stackM_lt ht] at this
  refine ⟨_, h, ?_⟩
  split <;> omega
theorem rp_same {P : Int} {n : Nat} {A X : Nat → Nat → Int} (hP : 2 ≤ P) (hr : ∀ m, m ≤ n → HasRank P n m A m) (hs : ∀ i, i ≤ n → SameSp P n i A i X) {i : Nat} (hi : i < n) : RpAt P n A X i (i : Int) := by
  refine ⟨i, rfl, hi, ⟨_, _, cm_same hr hs (i := i + 1) (j := i + 1) (by omega) (by omega), cm_same hr hs (i := i) (j := i + 1) (by omega) (by omega), ?_⟩, fun k hk a b ha hb => ?_⟩
  · rw [if_pos (Nat.le_refl _), if_pos (by omega)]; omega
  · rw [ha.one hP (cm_same hr hs (i := i + 1) (j := k + 1) (by omega) (by omega)), hb.one hP (cm_same hr hs (i := i) (j := k + 1) (by omega) (by omega)), if_neg (by omega)]
    by_cases e : i ≤ k + 1
    · rw [if_pos e]; omega
    · rw [if_neg e]

/-- the position of two flags with the same members -/
theorem RpIs.same {P : Int} {n : Nat} {D D' : List Int} {l : List Int} (h : IsFl P n n D) (h' : IsFl P n n D') (hs : ∀ i, i ≤ n → SameSp P n i (mf n fun t => D.getD t 0) i (mf n fun t => D'.getD t 0)) (hl : RpIs P n n D P n n D' l) : l = (List.range n).map fun k : Nat => (k : Int) := by
  rcases hl with ⟨_, h1, h2⟩ | ⟨t, _⟩
  · obtain ⟨m, _, e, _, _, hlD, hD, hP, _, hp, hrk⟩ := h.facts
    obtain rfl := Int.ofNat.inj e
    have hrg : ∀ t, 0 ≤ D.getD t 0 ∧ D.getD t 0 < P := fun t => getD_range hD (by omega) t
    have hr : ∀ k, k ≤ n → HasRank P n k (mf n fun t => D.getD t 0) k := fun k hk => hrk.part hp (fun i j _ _ => hrg _) hk
    rw [Int.toNat_natCast] at h1 h2
    refine getD_eq_list (by simp [h1]) fun j hj => ?_
    rw [h1] at hj
    rw [(h2 j (by omega)).one (rp_same hP hr hs hj)]
    simp [List.getD_eq_getElem?_getD, hj]
  · exact absurd ⟨h, h', rfl, rfl⟩ t

/-- a flag's normal form, and the flag's permutation -/
structure NfOf (P : Int) (n : Nat) (D : List Int) (X : Nat → Nat → Int) (q : Nat → Nat) : Prop where
  up : NfUp P n (mf n fun t => D.getD t 0) X q n
theorem NfIs.of {P : Int} {n : Nat} {D : List Int} {m : Mx} {ok : Bool} (hf : IsFl P n n D) (h : NfIs P n n D m ok) : ok = true ∧ ∃ X q, NfOf P n D X q ∧ m = ⟨P, n, n, flatM n n X⟩ := by
  rcases h with ⟨_, e, X, q, h1, h2⟩ | ⟨t, _⟩
  · exact ⟨e, X, q, ⟨by simpa using h1⟩, by simpa using h2⟩
  · exact absurd hf t
theorem FpIs.of {P : Int} {n : Nat} {D : List Int} {l : List Int} (hf : IsFl P n n D) (h : FpIs P n n D l) : ∃ X q, NfOf P n D X q ∧ l = (List.range n).map fun k => (q k : Int) := by
  rcases h with ⟨_, X, q, h1, h2⟩ | ⟨t, _⟩
  · exact ⟨X, q, ⟨by simpa using h1⟩, by simpa using h2⟩
  · exact absurd hf t
theorem NfOf.same {P : Int} {n : Nat} {D : List Int} {X : Nat → Nat → Int} {q : Nat → Nat} (hP : 2 ≤ P) (h : NfOf P n D X q) : ∀ i, i ≤ n → SameSp P n i (mf n fun t => D.getD t 0) i (mf n fun t => (flatM n n X).getD t 0) := fun i hi =>
  (NfUp.same hP i (fun k hk => h.up k (by omega))).trans (SameSp.of_eqv fun k hk => .of_eq fun j hj => (mf_flatM (by omega) hj).symm)
theorem NfOf.rng {P : Int} {n : Nat} {D : List Int} {X : Nat → Nat → Int} {q : Nat → Nat} (hP : 2 ≤ P) (h : NfOf P n D X q) : ∀ x ∈ flatM n n X, 0 ≤ x ∧ x < P := by
  intro x hx
  unfold flatM at hx
  obtain ⟨t, ht, rfl⟩ := List.mem_map.1 hx
  have h1 := List.mem_range.1 ht
  have hn : 0 < n := by rcases Nat.eq_zero_or_pos n with e | e; (subst e; omega); exact e
  exact h.up.rng hP _ _ (Nat.div_lt_of_lt_mul h1) (Nat.mod_lt _ hn)
/-- a normal form is a flag -/
theorem NfOf.fl {P : Int} {n : Nat} {D : List Int} {X : Nat → Nat → Int} {q : Nat → Nat} (hf : IsFl P n n D) (h : NfOf P n D X q) : IsFl P n n (flatM n n X) := by
  obtain ⟨m, _, e, hn0, hn7, hlD, hD, hP, _, hp, hrk⟩ := hf.facts
  obtain rfl := Int.ofNat.inj e
  refine isFl_of hp hn0 hn7 (by simp [flatM]) (h.rng hP) ?_
  exact (hrk.same (h.same hP n (Nat.le_refl _)).symm).indep hp (fun i j hi hj => by rw [mf_flatM hi hj]; exact h.up.rng hP i j hi hj)

end Go.Proofs.Ytklpaannmdbmiaa

namespace Go.Proofs.Ytklpaannmdbmiaa
set_option linter.all false
open Go.RowKit

theorem blk3 {w : World} {b : Nat} {x0 x1 x2 : Value} {T : TypeId} (h : w.heap[b]? = some (.cells #[x0, x1, x2] T (0, 0))) :
    w.cell? ⟨b, 0, none⟩ = some x0 ∧ w.cell? ⟨b, 1, none⟩ = some x1 ∧ w.cell? ⟨b, 2, none⟩ = some x2 ∧ (∀ j, w.frozen? ⟨b, j, none⟩ = false) ∧ b < w.heap.size :=
  ⟨cell_of_blk h rfl, cell_of_blk h rfl, cell_of_blk h rfl, free_of_blk h, (Array.getElem?_eq_some_iff.1 h).1⟩

theorem and255 (x : Int) : 0 ≤ bits .and .i64 x 255 ∧ bits .and .i64 x 255 ≤ 255 := by
  have h1 : (BitVec.ofInt 64 x).toNat &&& 255 < 2 ^ 8 := Nat.and_lt_two_pow _ (by decide)
  have e : bits .and .i64 x 255 = IntKind.i64.wrap (((BitVec.ofInt 64 x).toNat &&& 255 : Nat) : Int) := by
    simp only [bits, BitVec.toNat_and]
    rfl
  have e2 : IntKind.i64.wrap (((BitVec.ofInt 64 x).toNat &&& 255 : Nat) : Int) = (((BitVec.ofInt 64 x).toNat &&& 255 : Nat) : Int) := k64 (by omega) (by omega)
  rw [e, e2]
  omega

/-- bytes that can be read -/
def Byts (w : World) (v : Value) (n : Nat) : Prop := ∃ f : Nat → Int, Rd w v n fun j => .int .u8 (f j)
theorem Byts.below {w w' : World} {v : Value} {n : Nat} (h : Byts w v n) (hb : Below w.heap.size w w') : Byts w' v n := by
  obtain ⟨f, h⟩ := h
  exact ⟨f, h.below hb⟩

theorem Byts.frm {w w' : World} {p : Option Addr} {n cap k : Nat} (h : Byts w (.slice p n cap) n) (hf : Frm k (k + 1) w w') (hne : 0 < n → ∀ a, p = some a → a.block < k) : Byts w' (.slice p n cap) n := by
  obtain ⟨f, p', cap', e, hm, hx⟩ := h
  injection e with e1 _ e3
  subst e1 e3
  refine ⟨f, p, cap, rfl, hm, fun h0 => ?_⟩
  obtain ⟨b, off, hp, hc⟩ := hx h0
  refine ⟨b, off, hp, fun j hj => ?_⟩
  have hb := World.block_lt_of_cell? w _ (hc j hj)
  have h1 := hne h0 _ hp
  rw [World.cell?_of_block (w := w) (hf.block b hb (by dsimp only at h1; omega))]
  exact hc j hj

/-- the cursor in block k -/
def Cur (w : World) (k : Nat) : Prop :=
  ∃ (p : Option Addr) (n cap i : Nat) (h : Int), w.heap[k]? = some (.cells #[.slice p n cap, .int .i64 (i : Int), .int .i64 h] 59 (0, 0)) ∧ i ≤ n ∧ Byts w (.slice p n cap) n ∧ (0 < n → ∀ a, p = some a → a.block < k)
theorem Cur.lt {w : World} {k : Nat} (h : Cur w k) : k < w.heap.size := by
  obtain ⟨_, _, _, _, _, h, _⟩ := h
  exact blk_lt h
theorem Cur.keepB {w w' : World} {k B : Nat} (h : Cur w k) (hb : Below B w w') (hB : k < B) : Cur w' k := by
  have hk := h.lt
  obtain ⟨p, n, cap, i, x, h1, h2, ⟨f, p', cap', e, hm, h3⟩, h4⟩ := h
  injection e with e1 _ e3
  subst e1 e3
  refine ⟨p, n, cap, i, x, by rw [hb.block k hB]; exact h1, h2, ⟨f, p, cap, rfl, hm, fun h0 => ?_⟩, h4⟩
  obtain ⟨b, off, hp, hc⟩ := h3 h0
  have hlt := h4 h0 _ hp
  dsimp only at hlt
  exact ⟨b, off, hp, fun j hj => by rw [World.cell?_of_block (w := w) (hb.block b (by omega))]; exact hc j hj⟩
theorem Frm.thenB {lo hi B : Nat} {a b c : World} (h : Frm lo hi a b) (hb : Below B b c) (hB : a.heap.size ≤ B) : Frm lo hi a c :=
  ⟨hb.os.trans h.os, hb.tape.trans h.tape, hb.output.trans h.output, Nat.le_trans h.size hb.size, fun k hk ho => (hb.block k (by omega)).trans (h.block k hk ho)⟩
theorem OwnI.setOther {T : TypeId} {w : World} {lo hi : Nat} {v : Value} {xs : List Int} (h : OwnI T w lo hi v xs) {a : Addr} (hne : v.ownBlock ≠ some a.block) (u : Value) : OwnI T (w.setCell a u) lo hi v xs :=
  ⟨ownsRow_of_block h.1 fun b hb => Below.heap_setCell _ _ _ _ fun e => hne (by rw [hb, e]), h.2⟩
theorem Cur.below {w w' : World} {k : Nat} (h : Cur w k) (hb : Below w.heap.size w w') : Cur w' k := by
  obtain ⟨p, n, cap, i, x, h1, h2, h3, h4⟩ := h
  exact ⟨p, n, cap, i, x, blk_later h1 hb, h2, h3.below hb, h4⟩

set_option maxRecDepth 100000 in
set_option maxHeartbeats 2000000 in
theorem l1Byte_any (k : Nat) (w : World) (h : Cur w k) :
    Calls Try.prog 33 #[.pointer (some ⟨k, 0, none⟩)] w fun e w' => ∃ x : Int, e = .returned (.int .i64 x) ∧ 0 ≤ x ∧ x ≤ 255 ∧ Cur w' k ∧ Frm k (k + 1) w w' := by
  obtain ⟨p, n, cap, i, x, h1, h2, ⟨f, h3⟩, h4⟩ := h
  obtain ⟨c0, c1, c2, cf, cz⟩ := blk3 h1
  obtain ⟨_, _, e, ⟨hx1, hx2⟩, hxc⟩ := h3
  injection e with e1 e2 e3
  subst e1 e3
  unfold maxLen at hx2
  have Hxc := Lib.hid hxc
  clear hxc e2
  go_enter Try.func33, Try.ntmps33
  go_wp2_with fail
  go_quiet (fail)
  obtain ⟨X, hX⟩ : ∃ X, X = wrap64 (wrap64 (x * 6364136223846793005) + 1442695040888963407) := ⟨_, rfl⟩
  rw [← hX]
  obtain ⟨Y, hY⟩ : ∃ Y, Y = bits BinOp.and IntKind.i64 (bits BinOp.xor IntKind.i64 (X / 8589934592) (X / 35184372088832)) 255 := ⟨_, rfl⟩
  rw [← hY]
  have hY2 := and255 (bits BinOp.xor IntKind.i64 (X / 8589934592) (X / 35184372088832))
  rw [← hY] at hY2
  clear hX hY
  have hf2 : Frm k (k + 1) w ((w.setCell ⟨k, 2, none⟩ (.int .i64 X)).drewN nq) := ((Frm.refl k (k + 1) w).setCell (Nat.le_refl _) (Nat.lt_succ_self _) _).drewN nq
  have hh2 : ((w.setCell ⟨k, 2, none⟩ (.int .i64 X)).drewN nq).heap[k]? = some (.cells #[.slice p n cap, .int .i64 (i : Int), .int .i64 X] 59 (0, 0)) := heap_setCell_at h1 2 _
  have hB2 : Byts ((w.setCell ⟨k, 2, none⟩ (.int .i64 X)).drewN nq) (.slice p n cap) n := Byts.frm ⟨f, _, _, rfl, ⟨hx1, by unfold maxLen; omega⟩, Hxc.out⟩ hf2 h4
  generalize (w.setCell ⟨k, 2, none⟩ (.int .i64 X)).drewN nq = w2 at *
  clear c0 c1 c2 cf cz Hxc f
  obtain ⟨c0, c1, c2, cf, cz⟩ := blk3 hh2
  have HB2 := Lib.hid hB2
  have Hf2 := Lib.hid hf2
  obtain ⟨f, p', cap', e, _, hxc⟩ := hB2
  injection e with e1 _ e3
  subst e1 e3
  clear hf2
  by_cases hlt : i < n
  · obtain ⟨b, off, rfl, hc⟩ := hxc (by omega)
    have cb := hc i hlt
    have hlt2 : (i : Int) < (n : Int) := by omega
    clear hxc hc
    go_wp2_with fail
    go_quiet (fail)
    go_wp2_with fail
    go_quiet (fail)
    obtain ⟨Z, hZ⟩ : ∃ Z, Z = bits BinOp.and IntKind.i64 (wrap64 (Y + wrap64 (f i))) 255 := ⟨_, rfl⟩
    rw [← hZ]
    have hZ2 := and255 (wrap64 (Y + wrap64 (f i)))
    rw [← hZ] at hZ2
    clear hZ
    have hcast : (i : Int) + 1 = ((i + 1 : Nat) : Int) := by omega
    have Hcast := Lib.hid hcast
    clear hcast
    go_wp2_with fail
    go_ret
    rw [Hcast.out]
    refine ⟨Z, rfl, hZ2.1, hZ2.2, ⟨_, n, cap, i + 1, X, by exact heap_setCell_at hh2 1 _, by omega, ?_, h4⟩, ?_⟩
    · exact HB2.out.frm (k := k) (Frm.setCell ((Frm.refl k (k + 1) w2).drewN _) (Nat.le_refl k) (Nat.lt_succ_self k) _) h4
    · exact Frm.setCell (Hf2.out.drewN _) (Nat.le_refl k) (Nat.lt_succ_self k) _
  · have hlt2 : ¬ (i : Int) < (n : Int) := by omega
    clear hxc
    go_wp2_with fail
    go_quiet (fail)
    go_wp2_with fail
    go_ret
    exact ⟨Y, rfl, hY2.1, hY2.2, ⟨p, n, cap, i, X, hh2, h2, HB2.out.frm (k := k) ((Frm.refl k (k + 1) w2).drewN _) h4, h4⟩, Hf2.out.drewN _⟩

set_option maxRecDepth 100000 in
set_option maxHeartbeats 2000000 in
/-- a number from 0 to m - 1, where m is not great -/
theorem l1Below_any (k m : Nat) (w : World) (h : Cur w k) (h0 : 1 ≤ m) (hm : m ≤ 256) :
    Calls Try.prog 16 #[.pointer (some ⟨k, 0, none⟩), .int .i64 (m : Int)] w fun e w' => ∃ x : Nat, e = .returned (.int .i64 (x : Int)) ∧ x < m ∧ Cur w' k ∧ Frm k (k + 1) w w' := by
  have Hc := Lib.hid h
  clear h
  go_enter Try.func16, Try.ntmps16
  go_wp2_with fail
  refine (l1Byte_any k _ Hc.out).mono ?_
  rintro e w1 ⟨x, rfl, hx0, hx1, hc1, hf1⟩
  obtain ⟨X, rfl⟩ := Int.eq_ofNat_of_zero_le hx0
  have Hc1 := Lib.hid hc1
  have Hf1 := Lib.hid hf1
  clear hc1 hf1
  go_wp2_with fail
  go_ret
  exact ⟨X % m, ret_int (Int.natCast_emod X m).symm, Nat.mod_lt _ (by omega), Hc1.out, Hf1.out⟩

set_option maxRecDepth 100000 in
set_option maxHeartbeats 2000000 in
theorem l1Once_any (k m : Nat) (w : World) (h : Cur w k) (h0 : 1 ≤ m) (hm : m ≤ 256) :
    Calls Try.prog 18 #[.pointer (some ⟨k, 0, none⟩), .int .i64 (m : Int)] w fun e w' => ∃ b : Bool, e = .returned (.bool b) ∧ Cur w' k ∧ Frm k (k + 1) w w' := by
  have Hc := Lib.hid h
  clear h
  go_enter Try.func18, Try.ntmps18
  go_wp2_with fail
  refine (l1Below_any k m _ Hc.out h0 hm).mono ?_
  rintro e w1 ⟨x, rfl, hx, hc1, hf1⟩
  go_wp2_with fail
  go_ret
  exact ⟨_, rfl, hc1, hf1⟩

set_option maxRecDepth 100000 in
set_option maxHeartbeats 2000000 in
/-- one of some numbers -/
theorem l1PickInt_any (k : Nat) (v : Value) (xs : List Int) (w : World) (h : Cur w k) (hv : Ints w v xs) (hne : ∀ p n c, v = .slice p n c → ∀ a, p = some a → a.block ≠ k) (h0 : 1 ≤ xs.length) (hm : xs.length ≤ 256) :
    Calls Try.prog 32 #[.pointer (some ⟨k, 0, none⟩), v] w fun e w' => ∃ x ∈ xs, e = .returned (.int .i64 x) ∧ Cur w' k ∧ Frm k (k + 1) w w' := by
  have Hc := Lib.hid h
  clear h
  obtain ⟨p, cap, rfl, ⟨hx1, hx2⟩, hxc⟩ := hv
  obtain ⟨b, off, rfl, hc⟩ := hxc h0
  have hk : b ≠ k := hne _ _ _ rfl _ rfl
  unfold maxLen at hx2
  clear hne hxc
  go_enter Try.func32, Try.ntmps32
  go_wp2_with fail
  refine (l1Below_any k xs.length _ Hc.out h0 hm).mono ?_
  rintro e w1 ⟨x, rfl, hx, hc1, hf1⟩
  have c1 : w1.cell? ⟨b, off + x, none⟩ = some (.int .i64 xs[x]) := by
    rw [World.cell?_of_block (w := w) (hf1.block b (World.block_lt_of_cell? w _ (hc x hx)) (by omega)), hc x hx]
    simp [iv, List.getD_eq_getElem?_getD, hx]
  have Hc1 := Lib.hid hc1
  have Hf1 := Lib.hid hf1
  have Hm := Lib.hid (show xs[x] ∈ xs from List.getElem_mem hx)
  obtain ⟨X, hX⟩ : ∃ X, X = xs[x] := ⟨_, rfl⟩
  rw [← hX] at c1 Hm
  clear hX hc hc1 hf1
  go_wp2_with fail
  go_ret
  exact ⟨X, Hm.out, rfl, Hc1.out, Hf1.out⟩

end Go.Proofs.Ytklpaannmdbmiaa

namespace Go.Proofs.Ytklpaannmdbmiaa
set_option linter.all false
open Go.RowKit

theorem cur_new {w : World} {p : Option Addr} {n cap : Nat} (x : Int) (h : Byts w (.slice p n cap) n) : Cur (w.alloc (.cells #[.slice p n cap, .int .i64 0, .int .i64 x] 59)) w.heap.size := by
  have h' := h
  obtain ⟨f, p', cap', e, _, hx⟩ := h'
  injection e with e1 _ e3
  subst e1 e3
  refine ⟨p, n, cap, 0, x, heap_alloc_top _ _, Nat.zero_le _, h.below (below_alloc _ _), fun h0 a ha => ?_⟩
  obtain ⟨b, off, e, hc⟩ := hx h0
  rw [e] at ha
  injection ha with ha
  subst ha
  have := World.block_lt_of_cell? _ _ (hc 0 h0)
  dsimp only at this ⊢
  omega

set_option maxRecDepth 100000 in
set_option maxHeartbeats 2000000 in
theorem l1New_any (v : Value) (n : Nat) (w : World) (h : Byts w v n) :
    Calls Try.prog 14 #[v] w fun e w' => e = .returned (.pointer (some ⟨w.heap.size, 0, none⟩)) ∧ Cur w' w.heap.size ∧ Below w.heap.size w w' := by
  have Hh := Lib.hid h
  obtain ⟨f, p, cap, rfl, ⟨hx1, hx2⟩, hxc⟩ := h
  unfold maxLen at hx2
  have Hxc := Lib.hid hxc
  clear hxc
  go_enter Try.func14, Try.ntmps14
  go_wp2_with fail
  go_loopg [3, 4] n (fun g s3 s4 wr => ∃ (k : Nat) (x : Int), k ≤ n ∧ g = n - k ∧ s3 = .int .i64 x ∧ s4 = .int .i64 k ∧ wr = w)
  case atStart => exact ⟨0, _, Nat.zero_le _, rfl, rfl, rfl, rfl⟩
  case round =>
    obtain ⟨k, x, hk, rfl, rfl, rfl, rfl⟩ := hrel
    by_cases hlt : k < n
    · by_cases h4 : k < 4000
      · obtain ⟨b, off, rfl, hc⟩ := Hxc.out (by omega)
        have c1 := hc k hlt
        have i1 : (k : Int) < (n : Int) := by omega
        have i2 : (k : Int) < 4000 := by omega
        clear hc
        go_wp2_with fail
        go_roundg (n - (k + 1))
        case measure => omega
        case rel => exact ⟨k + 1, _, by omega, rfl, rfl, by go_num, rfl⟩
      · have i1 : (k : Int) < (n : Int) := by omega
        have i2 : ¬ (k : Int) < 4000 := by omega
        go_wp2_with fail
        go_ret
        exact ⟨rfl, cur_new x Hh.out, below_alloc _ _⟩
    · have i1 : ¬ (k : Int) < (n : Int) := by omega
      go_wp2_with fail
      go_ret
      exact ⟨rfl, cur_new x Hh.out, below_alloc _ _⟩

end Go.Proofs.Ytklpaannmdbmiaa

namespace Go.Proofs.Ytklpaannmdbmiaa
set_option linter.all false
open Go.RowKit

set_option maxRecDepth 100000 in
set_option maxHeartbeats 2000000 in
theorem dPrime_any (k : Nat) (w : World) (h : Cur w k) :
    Calls Try.prog 15 #[.pointer (some ⟨k, 0, none⟩)] w fun e w' => ∃ P : Int, e = .returned (.int .i64 P) ∧ primeOk P = true ∧ Cur w' k ∧ Frm k (k + 1) w w' := by
  have Hc := Lib.hid h
  clear h
  go_enter Try.func15, Try.ntmps15
  go_wp2_with fail
  have hc1 := Hc.out.below (below_alloc w (.cells #[.int .i64 2, .int .i64 3, .int .i64 2, .int .i64 5, .int .i64 7] 3))
  have hk := Hc.out.lt
  refine (l1PickInt_any k _ [2, 3, 2, 5, 7] _ hc1 ⟨_, 5, rfl, ⟨Nat.le_refl _, by unfold maxLen; omega⟩, fun _ => ⟨w.heap.size, 0, rfl, fun j hj => ?_⟩⟩ (fun p n c e a ha => ?_) (by decide) (by decide)).mono ?_
  · have h5 := heap_alloc_top w (.cells #[.int .i64 2, .int .i64 3, .int .i64 2, .int .i64 5, .int .i64 7] 3)
    rw [Nat.zero_add]
    simp only [List.length_cons, List.length_nil] at hj
    obtain rfl | rfl | rfl | rfl | rfl : j = 0 ∨ j = 1 ∨ j = 2 ∨ j = 3 ∨ j = 4 := by omega
    all_goals exact cell_of_blk h5 rfl
  · injection e with e1 _ _
    rw [← e1] at ha
    injection ha with ha
    subst ha
    dsimp only
    omega
  · rintro e w1 ⟨x, hx, rfl, hc2, hf⟩
    have Hx := Lib.hid hx
    have Hc2 := Lib.hid hc2
    have Hf := Lib.hid hf
    clear hx hc2 hf hc1
    go_wp2_with fail
    go_ret
    refine ⟨x, rfl, ?_, Hc2.out, (Frm.of_below (below_alloc w _) _ _).trans Hf.out⟩
    have := Hx.out
    simp only [List.mem_cons, List.not_mem_nil, or_false] at this
    obtain rfl | rfl | rfl | rfl | rfl := this <;> decide

set_option maxRecDepth 100000 in
set_option maxHeartbeats 4000000 in
/-- a matrix of any numbers -/
theorem dMatrix_any (k : Nat) (P : Int) (r c : Nat) (w : World) (h : Cur w k) (hp : primeOk P = true) (hr : r ≤ 7) (hc : c ≤ 7) :
    Calls Try.prog 19 #[.pointer (some ⟨k, 0, none⟩), .int .i64 P, .int .i64 (r : Int), .int .i64 (c : Int)] w fun e w' =>
      ∃ (u : Value) (D : List Int), e = .returned (.agg #[.int .i64 P, .int .i64 (r : Int), .int .i64 (c : Int), u]) ∧ OwnI 3 w' w.heap.size w'.heap.size u D ∧ D.length = r * c ∧ (∀ x ∈ D, 0 ≤ x ∧ x < P) ∧ Cur w' k ∧ Frm k (k + 1) w w' := by
  obtain ⟨hP2, hP7⟩ := primeOk_range hp
  obtain ⟨p, rfl⟩ := Int.eq_ofNat_of_zero_le (show 0 ≤ P by omega)
  have Hc := Lib.hid h
  have hk := h.lt
  obtain ⟨N, hN, hw1, hw2⟩ := mul_named r c (by have := Nat.mul_le_mul hr hc; omega)
  have hNb : N ≤ 49 := by have := Nat.mul_le_mul hr hc; omega
  rw [← hN]
  have HN := Lib.hid hN
  have Hw1 := Lib.hid hw1
  have Hw2 := Lib.hid hw2
  clear h hN hp hw1 hw2
  have hw1 := Hw1.out
  go_enter Try.func19, Try.ntmps19
  go_wp2_with fail
  go_loopg [10] N (fun g s10 wr => ∃ (i : Nat) (D : List Int) (v : Value), i ≤ N ∧ g = N - i ∧ s10 = .int .i64 i ∧ D.length = i ∧ Hid (∀ x ∈ D, 0 ≤ x ∧ x < (p : Int)) ∧
    Hid (wr.heap[w.heap.size]? = some (.cells #[.int .i64 0, .int .i64 0, .int .i64 0, .slice none 0 0] 26)) ∧
    Hid (wr.heap[w.heap.size + 1 + 1]? = some (.cells #[.int .i64 p, .int .i64 r, .int .i64 c, v] 26)) ∧ Hid (OwnI 3 wr (w.heap.size + 1) wr.heap.size v D) ∧ Hid (Cur wr k) ∧ Hid (Frm k (k + 1) w wr))
  case atStart =>
    obtain ⟨z0, z1, z2⟩ := boxes_abz w (.cells #[.int .i64 0, .int .i64 0, .int .i64 0, .slice none 0 0] 26) (.cells #[] 3) (.cells #[.int .i64 p, .int .i64 r, .int .i64 c, .slice (some ⟨w.heap.size + 1, 0, none⟩) 0 0] 26)
    have hm0 := OwnF.made0 (w.alloc (.cells #[.int .i64 0, .int .i64 0, .int .i64 0, .slice none 0 0] 26)) 3 (iv [])
    rw [size_alloc] at hm0
    have hb3 := below_alloc3 w (.cells #[.int .i64 0, .int .i64 0, .int .i64 0, .slice none 0 0] 26) (.cells #[] 3) (.cells #[.int .i64 p, .int .i64 r, .int .i64 c, .slice (some ⟨w.heap.size + 1, 0, none⟩) 0 0] 26)
    refine ⟨0, [], _, Nat.zero_le _, rfl, rfl, rfl, fun x hx => absurd hx (List.not_mem_nil), z0, z2, ?_, Hc.out.below hb3, Frm.of_below hb3 _ _⟩
    refine OwnF.ints ?_
    refine OwnF.mono (OwnF.below hm0 (below_alloc _ _)) (Nat.le_refl _) (by simp)
  case round =>
    obtain ⟨i, D, v, hi, rfl, rfl, hDl, hD, hZ, hq, ho, hcu, hf⟩ := hrel
    by_cases hlt : i < N
    · have hlt2 : (i : Int) < (N : Int) := by omega
      obtain ⟨pv, kv, rfl, _, _⟩ := ho.out.shape
      have hofn := ho.out.fn
      rw [hDl] at hq hofn
      have Hq := Lib.hid hq.out
      have Ho := Lib.hid hofn
      have HD := Lib.hid hD.out
      have HDl := Lib.hid hDl
      have Hcu := Lib.hid hcu.out
      have Hf := Lib.hid hf.out
      have HZ := Lib.hid hZ.out
      have hkr := Hcu.out.lt
      obtain ⟨m0, m1, m2, m3, mf', mz⟩ := blk4 Hq.out
      have hne := own_box hofn Hq.out (by decide)
      have Hb1 := Lib.hid (show i + 1 ≤ maxLen by unfold maxLen; omega)
      have Hb2 := Lib.hid (show (i + 1) * 8 ≤ 140737488355328 by omega)
      clear hq ho hD hcu hf hZ hofn hDl
      go_wp2_with fail
      go_region_law (first
        | (refine step_append_F rfl (.tmp 24) (.tmp 28) 24 rfl 3 (.int .i64 0) 8 Try.underlying24 info_int rfl (w.heap.size + 1) wr.heap.size _ i (iv D) rfl (Ho1.out.below (below_alloc w1 _)) (by rw [size_alloc]; omega) (by rw [size_alloc]; omega) _ 1 _ rfl (rd_one _ _ _ rfl) (fun j _ => rfl) Hb1.out Hb2.out ?_; intro v2 w2 ho2 hg2; obtain ⟨p2, k2, rfl, _, _⟩ := ho2.shape; have hq2 := (hg2.block (w.heap.size + 1 + 1) (by rw [size_alloc]; omega) (fun e => hne e.symm)).trans ((heap_alloc_low w1 _ (by omega)).trans Hq1.out); have hZ2 := (hg2.block w.heap.size (by rw [size_alloc]; omega) (fun e => by have := Ho.out.blocks _ e.symm; omega)).trans ((heap_alloc_low w1 _ (by omega)).trans HZ1.out); obtain ⟨d0, d1, d2, d3, df, dz⟩ := blk4 hq2; have Hq2 := Lib.hid hq2; have HZ2 := Lib.hid hZ2; have Ho2 := Lib.hid ho2; have Hg2 := Lib.hid hg2; clear hq2 hZ2 ho2 hg2)
        | (refine (if_pos ?_).mpr ?_; rfl; go_simp; refine (l1Below_any k p _ (Hcu.out.below (Below.of_drewN _ _)) (by omega) (by omega)).mono ?_; rintro e w1 ⟨x, rfl, hx, hc1, hf1⟩; have hs1 : wr.heap.size ≤ w1.heap.size := hf1.size; have Hq1 := Lib.hid ((hf1.block (w.heap.size + 1 + 1) (by show _ < wr.heap.size; omega) (Or.inr (by omega))).trans Hq.out); have HZ1 := Lib.hid ((hf1.block w.heap.size (by show _ < wr.heap.size; omega) (Or.inr (by omega))).trans HZ.out); obtain ⟨g0, g1, g2, g3, gf, gz⟩ := blk4 Hq1.out; have Ho1 := Lib.hid ((Ho.out.below (Below.of_drewN _ _)).frm hf1 (Or.inr (by omega))); have Hc1 := Lib.hid hc1; have Hf1 := Lib.hid hf1; clear hc1 hf1; dsimp only))
      all_goals go_wp2_with fail
      all_goals go_roundg (N - (i + 1))
      all_goals try omega
      all_goals
        have hbx : Below (w.heap.size + 1) w1 (w2.setCell ⟨w.heap.size + 1 + 1, 3, none⟩ (.slice p2 (i + 1) k2)) := (((below_alloc w1 _).mono (by omega)).trans (grownBy_below Hg2.out Ho1.out.blocks (Nat.le_refl _) (by rw [size_alloc]; omega))).setCell (by show w.heap.size + 1 ≤ w.heap.size + 1 + 1; omega) _
        refine ⟨i + 1, D ++ [(x : Int)], _, by omega, rfl, by go_num, by rw [List.length_append, HDl.out]; rfl, fun y hy => ?_, ?_, heap_setCell_at Hq2.out 3 _, ?_, Hc1.out.keepB hbx (by omega), ?_⟩
        · rcases List.mem_append.1 hy with h | h
          · exact HD.out y h
          · rw [List.mem_singleton.1 h]; omega
        · exact (Below.heap_setCell _ _ _ _ (show w.heap.size ≠ w.heap.size + 1 + 1 by omega)).trans HZ2.out
        · have hoi : OwnI 3 w2 (w.heap.size + 1) w2.heap.size (.slice p2 (i + 1) k2) (D ++ [(x : Int)]) := OwnI.snoc1 (by rw [HDl.out]; exact Ho2.out)
          exact (hoi.setOther (own_box Ho2.out Hq2.out (by decide)) _).mono (Nat.le_refl _) (by rw [size_setCell]; exact Nat.le_refl _)
        · exact (((Hf.out.drewN _).trans Hf1.out)).thenB hbx (by omega)
    · obtain rfl : i = N := by omega
      have hlt2 : ¬ (i : Int) < (i : Int) := by omega
      obtain ⟨pv, kv, rfl, _, _⟩ := ho.out.shape
      rw [hDl] at hq ho
      have Hq := Lib.hid hq.out
      have Ho := Lib.hid ho.out
      have HD := Lib.hid hD.out
      have HDl := Lib.hid hDl
      have Hcu := Lib.hid hcu.out
      have Hf := Lib.hid hf.out
      have HZ := Lib.hid hZ.out
      obtain ⟨m0, m1, m2, m3, mf', mz⟩ := blk4 Hq.out
      obtain ⟨n0, n1, n2, n3, nf', nz⟩ := blk4 HZ.out
      clear hq ho hD hcu hf hZ hDl
      go_wp2_with fail
      obtain ⟨f0, f1, f2, f3, ff, fz⟩ := blk4 (set4_all HZ.out (.int .i64 p) (.int .i64 r) (.int .i64 c) (.slice pv i kv))
      refine bodyPost_ret (v := .agg #[.int .i64 p, .int .i64 r, .int .i64 c, .slice pv i kv]) (by simp [results, Try.results19, go_sem, f0, f1, f2, f3, fz]) rfl ⟨_, rfl, D, ?_, by rw [HDl.out, HN.out], HD.out, ?_, ?_⟩
      · exact (own_set4 Ho.out (.inl (by omega)) _ _ _ _).mono (by omega) (by simp only [size_setCell]; omega)
      · exact Hcu.out.keepB (below_set4 (Below.refl w.heap.size wr) (Nat.le_refl _) _ _ _ _) hk
      · exact Hf.out.thenB (below_set4 (Below.refl w.heap.size wr) (Nat.le_refl _) _ _ _ _) (Nat.le_refl _)

end Go.Proofs.Ytklpaannmdbmiaa

namespace Go.Proofs.Ytklpaannmdbmiaa
set_option linter.all false
open Go.RowKit

/-- all codes of m places -/
def codes : Nat → List (List Nat)
  | 0 => [[]]
  | m + 1 => (List.range (m + 1)).flatMap fun x => (codes m).map (x :: ·)
theorem mem_codes : ∀ (m : Nat) (c : List Nat), c.length = m → (∀ j, j < m → c.getD j 0 < m - j) → c ∈ codes m
  | 0, c, hl, _ => by
    obtain rfl := List.eq_nil_of_length_eq_zero hl
    simp [codes]
  | m + 1, [], hl, _ => by simp at hl
  | m + 1, x :: c, hl, h => by
    have h0 := h 0 (by omega)
    have ih := mem_codes m c (by simpa using hl) fun j hj => by
      have := h (j + 1) (by omega)
      simp at this ⊢
      omega
    unfold codes
    refine List.mem_flatMap.2 ⟨x, by simpa using h0, List.mem_map.2 ⟨c, ih, rfl⟩⟩
theorem decL_ok {n : Nat} (h1 : 1 ≤ n) (h5 : n ≤ 5) (c : List Nat) (hl : c.length = n) (h : ∀ j, j < n → c.getD j 0 < n - j) : permOk (decL n c) = true ∧ (decL n c).length = n := by
  have hc := mem_codes n c hl h
  have key : ∀ c ∈ codes n, permOk (decL n c) = true ∧ (decL n c).length = n := by
    have : n = 1 ∨ n = 2 ∨ n = 3 ∨ n = 4 ∨ n = 5 := by omega
    rcases this with rfl | rfl | rfl | rfl | rfl <;> decide +kernel
  exact key c hc

set_option maxRecDepth 100000 in
set_option maxHeartbeats 2000000 in
/-- any permutation of n -/
theorem dPerm_any (k n : Nat) (w : World) (h : Cur w k) (h1 : 1 ≤ n) (h5 : n ≤ 5) :
    Calls Try.prog 17 #[.pointer (some ⟨k, 0, none⟩), .int .i64 (n : Int)] w fun e w' =>
      ∃ (u : Value) (xs : List Int), e = .returned u ∧ OwnI 3 w' w.heap.size w'.heap.size u xs ∧ permOk xs = true ∧ xs.length = n ∧ Cur w' k ∧ Frm k (k + 1) w w' := by
  have Hc := Lib.hid h
  have hk := h.lt
  clear h
  go_enter Try.func17, Try.ntmps17
  go_wp2_with fail
  go_loopg [5, 6] n (fun g s5 s6 wr => ∃ (i : Nat) (cs : List Nat), i ≤ n ∧ g = n - i ∧ s6 = .int .i64 i ∧ cs.length = i ∧ Hid (∀ j, j < i → cs.getD j 0 < n - j) ∧ Hid (OwnI 3 wr w.heap.size wr.heap.size s5 (cs.map Int.ofNat)) ∧ Hid (Cur wr k) ∧ Hid (Frm k (k + 1) w wr))
  case atStart =>
    refine ⟨0, [], Nat.zero_le _, rfl, rfl, rfl, fun j hj => absurd hj (Nat.not_lt_zero _), ?_, Hc.out.below (below_alloc w _), Frm.of_below (below_alloc w _) _ _⟩
    exact OwnF.ints ((OwnF.made0 w 3 (iv [])).mono (Nat.le_refl _) (by simp))
  case round =>
    obtain ⟨i, cs, hi, rfl, rfl, hcl, hcd, ho, hcu, hf⟩ := hrel
    have hsr := hf.out.size
    by_cases hlt : i < n
    · have hlt2 : (i : Int) < (n : Int) := by omega
      have hsub : (n : Int) - (i : Int) = ((n - i : Nat) : Int) := by omega
      have Hsub := Lib.hid hsub
      obtain ⟨p5, k5, rfl, _, _⟩ := ho.out.shape
      have hofn := ho.out.fn
      have hml : (cs.map Int.ofNat).length = i := by rw [List.length_map, hcl]
      rw [hml] at hofn ⊢
      have Ho := Lib.hid hofn
      have Hml := Lib.hid hml
      have Hcl := Lib.hid hcl
      have Hcd := Lib.hid hcd.out
      have Hcu := Lib.hid hcu.out
      have Hf := Lib.hid hf.out
      have Hb1 := Lib.hid (show i + 1 ≤ maxLen by unfold maxLen; omega)
      have Hb2 := Lib.hid (show (i + 1) * 8 ≤ 140737488355328 by omega)
      clear hsub ho hofn hml hcl hcd hcu hf
      go_wp2_with fail
      rw [Hsub.out]
      refine (l1Below_any k (n - i) _ Hcu.out (by omega) (by omega)).mono ?_
      rintro e w1 ⟨x, rfl, hx, hc1, hf1⟩
      have hs1 := hf1.size
      have Ho1 := Lib.hid (Ho.out.frm hf1 (Or.inr (by omega)))
      have Hc1 := Lib.hid hc1
      have Hf1 := Lib.hid (Hf.out.trans hf1)
      clear hc1 hf1
      go_wp2_with (at_builtin; go_must (refine wpList_append_F rfl (.tmp 13) (.tmp 19) 24 rfl 3 (.int .i64 0) 8 Try.underlying24 info_int rfl w.heap.size wr.heap.size _ i (iv (cs.map Int.ofNat)) rfl (Ho1.out.below (below_alloc w1 _)) (by rw [size_alloc]; omega) (by rw [size_alloc]; omega) _ 1 _ rfl (rd_one _ _ _ rfl) (fun j _ => rfl) Hb1.out Hb2.out ?_; intro v2 w2 ho2 hg2))
      go_roundg (n - (i + 1))
      case measure => omega
      case rel =>
        have hbx : Below w.heap.size w1 w2 := ((below_alloc w1 _).mono (by omega)).trans (grownBy_below hg2 Ho1.out.blocks (Nat.le_refl _) (by rw [size_alloc]; omega))
        refine ⟨i + 1, cs ++ [x], by omega, rfl, by go_num, by rw [List.length_append, Hcl.out]; rfl, fun j hj => ?_, ?_, Hc1.out.keepB hbx hk, Hf1.out.thenB hbx (Nat.le_refl _)⟩
        · by_cases e : j < i
          · have := Hcd.out j e
            rwa [List.getD_eq_getElem?_getD, List.getElem?_append_left (by rw [Hcl.out]; exact e), ← List.getD_eq_getElem?_getD]
          · obtain rfl : j = i := by omega
            rw [List.getD_eq_getElem?_getD, List.getElem?_append_right (by rw [Hcl.out]; exact Nat.le_refl _), Hcl.out]
            simpa using hx
        · rw [List.map_append]
          exact OwnI.snoc1 (by rw [Hml.out]; exact ho2)
    · obtain rfl : i = n := by omega
      have hlt2 : ¬ (i : Int) < (i : Int) := by omega
      obtain ⟨p5, k5, rfl, _, _⟩ := ho.out.shape
      have hoi := ho.out.ints
      have hml : (cs.map Int.ofNat).length = i := by rw [List.length_map, hcl]
      rw [hml] at hoi ⊢
      have Ho := Lib.hid hoi
      have Hcl := Lib.hid hcl
      have Hcd := Lib.hid hcd.out
      have Hcu := Lib.hid hcu.out
      have Hf := Lib.hid hf.out
      clear ho hcl hcd hcu hf hoi hml
      go_wp2_with fail
      refine (specDecode_any _ cs _ Ho.out (by rw [Hcl.out]; omega) (fun x hx => ?_)).mono ?_
      · obtain ⟨j, hj, rfl⟩ := List.mem_iff_getElem.1 hx
        have := Hcd.out j (by rw [← Hcl.out]; exact hj)
        rw [List.getD_eq_getElem?_getD, List.getElem?_eq_getElem hj] at this
        simp at this
        omega
      · rintro e w1 ⟨u, rfl, ho1, hb1⟩
        obtain ⟨g1, g2⟩ := decL_ok h1 h5 cs Hcl.out Hcd.out
        rw [Hcl.out] at ho1
        have G1 := Lib.hid g1
        have G2 := Lib.hid g2
        have Ho1 := Lib.hid ho1
        have Hb1 := Lib.hid hb1
        clear g1 g2 ho1 hb1
        go_wp2_with fail
        go_ret
        exact ⟨u, _, rfl, Ho1.out.mono hsr (Nat.le_refl _), G1.out, G2.out, Hcu.out.below Hb1.out, Hf.out.thenB Hb1.out hsr⟩

end Go.Proofs.Ytklpaannmdbmiaa

namespace Go.Proofs.Ytklpaannmdbmiaa
set_option linter.all false
open Go.RowKit

end Go.Proofs.Ytklpaannmdbmiaa
