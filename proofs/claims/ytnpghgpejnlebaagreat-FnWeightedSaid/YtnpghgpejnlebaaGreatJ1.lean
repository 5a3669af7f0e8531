/-
  What slices of ints hold in memory, and what is left of it when the world changes: lemmas over any program, no function of the program in sight.
  From what the form says of a slice of ints that came in to what the walks ask of it.
  What a matrix that came in looks like: three numbers and a slice that reads as a list of integers.
  The law's own helpers over []int: copy, compare, mark, look for the marks.
  The law's own helpers over matrices: how great, copy, compare, mark, look for the marks.
  What a permutation is: the reference's and the program's tests answer alike.
  Plain lists: rows put behind one another. No program, no memory.
-/
import Derived.WalkKit
import Derived.WalkSpells
import Derived.WalkLawsBesides
import Derived.Deep.LoopGhost
import Derived.Deep.OwnRows
import Derived.Deep.QuietTactic
import Derived.BigQuiet
import Derived.Lib.Hide
import Derived.Lib.SmallJoins
import Derived.Test.YtnpghgpejnlebaaGreatProg
namespace Go.Proofs.YtnpghgpejnlebaaGreat
set_option linter.all false
open Go.RowKit

/-! ### frames -/

/-- what changed from w to w' lies in the blocks lo .. hi-1, or is new -/
structure Frm (lo hi : Nat) (w w' : World) : Prop where
  os : w'.os = w.os
  tape : w'.tape = w.tape
  output : w'.output = w.output
  size : w.heap.size ≤ w'.heap.size
  block : ∀ k, k < w.heap.size → (k < lo ∨ hi ≤ k) → w'.heap[k]? = w.heap[k]?

theorem Frm.refl (lo hi : Nat) (w : World) : Frm lo hi w w := ⟨rfl, rfl, rfl, Nat.le_refl _, fun _ _ _ => rfl⟩
theorem Frm.trans {lo hi : Nat} {a b c : World} (h : Frm lo hi a b) (k : Frm lo hi b c) : Frm lo hi a c :=
  ⟨k.os.trans h.os, k.tape.trans h.tape, k.output.trans h.output, Nat.le_trans h.size k.size,
    fun i hi' ho => (k.block i (Nat.lt_of_lt_of_le hi' h.size) ho).trans (h.block i hi' ho)⟩
theorem Frm.mono {lo hi lo' hi' : Nat} {a b : World} (h : Frm lo hi a b) (h1 : lo' ≤ lo) (h2 : hi ≤ hi') : Frm lo' hi' a b :=
  ⟨h.os, h.tape, h.output, h.size, fun i hi' ho => h.block i hi' (by omega)⟩
theorem Frm.of_below {w w' : World} (h : Below w.heap.size w w') (lo hi : Nat) : Frm lo hi w w' :=
  ⟨h.os, h.tape, h.output, h.size, fun i hi' _ => h.block i hi'⟩
theorem Frm.drewN {lo hi : Nat} {a w : World} (h : Frm lo hi a w) (n : Nat) : Frm lo hi a (w.drewN n) := ⟨h.os, h.tape, h.output, h.size, h.block⟩
/-- what changed lies from lo on -/
theorem Frm.below {lo hi : Nat} {a b : World} (h : Frm lo hi a b) {B : Nat} (hB : B ≤ lo) (hs : B ≤ a.heap.size) : Below B a b :=
  ⟨h.os, h.tape, h.output, h.size, fun k hk => h.block k (by omega) (.inl (by omega))⟩
theorem Below.drewN {B : Nat} {a w : World} (h : Below B a w) (n : Nat) : Below B a (w.drewN n) := ⟨h.os, h.tape, h.output, h.size, h.block⟩
theorem Below.of_drewN {B : Nat} (w : World) (n : Nat) : Below B w (w.drewN n) := ⟨rfl, rfl, rfl, Nat.le_refl _, fun _ _ => rfl⟩

theorem below_trans {a b c : World} (h : Below a.heap.size a b) (k : Below b.heap.size b c) : Below a.heap.size a c := h.trans (k.mono h.size)

/-! ### worlds that differ by draws alone -/

def Qt (w w' : World) : Prop := ∃ n, w' = w.drewN n
theorem Qt.refl (w : World) : Qt w w := ⟨0, rfl⟩
theorem Qt.trans {a b c : World} (h : Qt a b) (k : Qt b c) : Qt a c := by
  obtain ⟨n, rfl⟩ := h
  obtain ⟨m, rfl⟩ := k
  exact ⟨n + m, World.drewN_drewN _ _ _⟩
theorem Qt.drewN {a b : World} (h : Qt a b) (n : Nat) : Qt a (b.drewN n) := h.trans ⟨n, rfl⟩
theorem Qt.cell {w w' : World} (h : Qt w w') {a : Addr} {x : Value} (hx : w.cell? a = some x) : w'.cell? a = some x := by
  obtain ⟨n, rfl⟩ := h
  exact hx
theorem Qt.below {w w' : World} (h : Qt w w') (B : Nat) : Below B w w' := by
  obtain ⟨n, rfl⟩ := h
  exact Below.of_drewN w n
theorem Qt.frm {w w' : World} (h : Qt w w') (lo hi : Nat) : Frm lo hi w w' := Frm.of_below (h.below _) lo hi
theorem Qt.size {w w' : World} (h : Qt w w') : w'.heap.size = w.heap.size := by
  obtain ⟨n, rfl⟩ := h
  rfl
theorem Qt.heap {w w' : World} (h : Qt w w') : w'.heap = w.heap := by
  obtain ⟨n, rfl⟩ := h
  rfl
/-- a contract that draws, met inside a region that draws -/
theorem quiet_q {P : Program} {f : FuncId} {args : Array Value} {w : World} {n : Nat} {v : Value}
    (h : Calls P f args (w.drewN n) fun e w' => e = .returned v ∧ Qt (w.drewN n) w') : Calls P f args (w.drewN n) fun e w'' => e = .returned v ∧ ∃ m, w'' = w.drewN m :=
  h.mono fun _ _ ⟨he, m, hm⟩ => ⟨he, n + m, by rw [hm, World.drewN_drewN]⟩

/-! ### slices that can be read -/

/-- a slice that can be read: n elements of one cell -/
def Rd (w : World) (v : Value) (n : Nat) (f : Nat → Value) : Prop :=
  ∃ p cap, v = .slice p n cap ∧ (n ≤ cap ∧ cap ≤ maxLen) ∧ (0 < n → ∃ b off, p = some ⟨b, off, none⟩ ∧ ∀ j, j < n → w.cell? ⟨b, off + j, none⟩ = some (f j))

/-- the numbers of a list, as values -/
def iv (xs : List Int) (j : Nat) : Value := .int .i64 (xs.getD j 0)
def ivs (xs : List Int) : List Value := xs.map (Value.int .i64)

/-- a slice of ints that reads as a list -/
def Ints (w : World) (v : Value) (xs : List Int) : Prop := Rd w v xs.length (iv xs)

theorem Rd.of_cells {w w' : World} {v : Value} {n : Nat} {f : Nat → Value} (h : Rd w v n f) (hc : ∀ a x, w.cell? a = some x → w'.cell? a = some x) : Rd w' v n f := by
  obtain ⟨p, cap, rfl, hm, h⟩ := h
  refine ⟨p, cap, rfl, hm, fun h0 => ?_⟩
  obtain ⟨b, off, hp, hx⟩ := h h0
  exact ⟨b, off, hp, fun j hj => hc _ _ (hx j hj)⟩
theorem Rd.below {w w' : World} {v : Value} {n : Nat} {f : Nat → Value} (h : Rd w v n f) (hb : Below w.heap.size w w') : Rd w' v n f :=
  h.of_cells fun a x hx => by rw [hb.cell (World.block_lt_of_cell? w a hx)]; exact hx
theorem Rd.drewN {w : World} {v : Value} {n : Nat} {f : Nat → Value} (h : Rd w v n f) (q : Nat) : Rd (w.drewN q) v n f := h.of_cells fun _ _ hx => hx
theorem Rd.qt {w w' : World} {v : Value} {n : Nat} {f : Nat → Value} (h : Rd w v n f) (q : Qt w w') : Rd w' v n f := h.of_cells fun _ _ hx => q.cell hx
theorem Rd.congr {w : World} {v : Value} {n : Nat} {f g : Nat → Value} (h : Rd w v n f) (e : ∀ j, j < n → f j = g j) : Rd w v n g := by
  obtain ⟨p, cap, rfl, hm, h⟩ := h
  refine ⟨p, cap, rfl, hm, fun h0 => ?_⟩
  obtain ⟨b, off, hp, hx⟩ := h h0
  exact ⟨b, off, hp, fun j hj => by rw [← e j hj]; exact hx j hj⟩

theorem Ints.below {w w' : World} {v : Value} {xs : List Int} (h : Ints w v xs) (hb : Below w.heap.size w w') : Ints w' v xs := Rd.below h hb
theorem Ints.qt {w w' : World} {v : Value} {xs : List Int} (h : Ints w v xs) (q : Qt w w') : Ints w' v xs := Rd.qt h q
theorem Ints.drewN {w : World} {v : Value} {xs : List Int} (h : Ints w v xs) (q : Nat) : Ints (w.drewN q) v xs := Rd.drewN h q

/-! ### slices that a call made -/

/-- a slice of n elements of so many cells each, at the head of a block of its own between lo and hi; T: the element's type -/
def Own (w : World) (lo hi : Nat) (T : TypeId) (size : Nat) (v : Value) (n : Nat) (xs : List Value) : Prop :=
  w.ownsRow lo T size v n xs ∧ ∀ k, v.ownBlock = some k → k < hi

theorem ownsRow_of_block {w w' : World} {lo : Nat} {T : TypeId} {size : Nat} {v : Value} {n : Nat} {xs : List Value} (h : w.ownsRow lo T size v n xs)
    (hb : ∀ k, v.ownBlock = some k → w'.heap[k]? = w.heap[k]?) : w'.ownsRow lo T size v n xs := by
  refine ⟨h.1, ?_⟩
  rcases h.2 with hn | ⟨g, cap, cur, rfl, hb', hg, rest⟩
  · exact .inl hn
  · exact .inr ⟨g, cap, cur, rfl, hb', by rw [hb g rfl]; exact hg, rest⟩
theorem ownsRow_lo {w : World} {lo lo' : Nat} {T : TypeId} {size : Nat} {v : Value} {n : Nat} {xs : List Value} (h : w.ownsRow lo T size v n xs) (hl : lo' ≤ lo) : w.ownsRow lo' T size v n xs := by
  refine ⟨h.1, ?_⟩
  rcases h.2 with hn | ⟨g, cap, cur, rfl, hb', hg, rest⟩
  · exact .inl hn
  · exact .inr ⟨g, cap, cur, rfl, by omega, hg, rest⟩

namespace Own
variable {w w' : World} {lo hi : Nat} {T : TypeId} {size : Nat} {v : Value} {n : Nat} {xs : List Value}

theorem of_row (h : w.ownsRow lo T size v n xs) : Own w lo w.heap.size T size v n xs := ⟨h, fun k hk => (h.lt k hk).2⟩
theorem block (h : Own w lo hi T size v n xs) {k : Nat} (hk : v.ownBlock = some k) : lo ≤ k ∧ k < hi ∧ k < w.heap.size := ⟨(h.1.lt k hk).1, h.2 k hk, (h.1.lt k hk).2⟩
theorem mono {lo' hi' : Nat} (h : Own w lo hi T size v n xs) (h1 : lo' ≤ lo) (h2 : hi ≤ hi') : Own w lo' hi' T size v n xs :=
  ⟨ownsRow_lo h.1 h1, fun k hk => Nat.lt_of_lt_of_le (h.2 k hk) h2⟩
/-- the blocks lo .. hi-1 have not changed -/
theorem keep (h : Own w lo hi T size v n xs) (hb : ∀ k, lo ≤ k → k < hi → k < w.heap.size → w'.heap[k]? = w.heap[k]?) : Own w' lo hi T size v n xs :=
  ⟨ownsRow_of_block h.1 fun k hk => hb k (h.block hk).1 (h.block hk).2.1 (h.block hk).2.2, h.2⟩
theorem below (h : Own w lo hi T size v n xs) (hb : Below w.heap.size w w') : Own w' lo hi T size v n xs := h.keep fun k _ _ h3 => hb.block k h3
theorem frm {lo' hi' : Nat} (h : Own w lo hi T size v n xs) (hb : Frm lo' hi' w w') (ho : hi ≤ lo' ∨ hi' ≤ lo) : Own w' lo hi T size v n xs :=
  h.keep fun k h1 h2 h3 => hb.block k h3 (by omega)
theorem drewN (h : Own w lo hi T size v n xs) (q : Nat) : Own (w.drewN q) lo hi T size v n xs := h.keep fun _ _ _ _ => rfl
theorem len (h : Own w lo hi T size v n xs) : xs.length = n * size := h.1.1
end Own

theorem length_ivs (xs : List Int) : (ivs xs).length = xs.length := by simp [ivs]
theorem getElem?_ivs (xs : List Int) (j : Nat) (h : j < xs.length) : (ivs xs)[j]? = some (iv xs j) := by simp [ivs, iv, h]

/-- a slice of ints that a call made -/
def OwnI (T : TypeId) (w : World) (lo hi : Nat) (v : Value) (xs : List Int) : Prop := Own w lo hi T 1 v xs.length (ivs xs)


/-- what is owned, cells of one value each, can be read -/
theorem ownsRow_rd {w : World} {lo : Nat} {T : TypeId} {v : Value} {n : Nat} {xs : List Value} (h : w.ownsRow lo T 1 v n xs) {f : Nat → Value} (hf : ∀ j, j < n → xs[j]? = some (f j)) : Rd w v n f := by
  rcases h.2 with ⟨rfl, rfl⟩ | ⟨g, cap, cur, rfl, _, _, hm, hm2, _⟩
  · exact ⟨none, 0, rfl, ⟨Nat.le_refl _, Nat.zero_le _⟩, fun h0 => absurd h0 (by omega)⟩
  · refine ⟨_, cap, rfl, ⟨hm, hm2⟩, fun _ => ⟨g, 0, rfl, fun j hj => ?_⟩⟩
    have := h.cells (g := g) rfl j _ (hf j hj)
    have hadd : (⟨g, 0, none⟩ : Addr).add j = ⟨g, 0 + j, none⟩ := by unfold Addr.add; split <;> simp_all
    rw [hadd] at this
    exact this
theorem OwnI.ints {T : TypeId} {w : World} {lo hi : Nat} {v : Value} {xs : List Int} (h : OwnI T w lo hi v xs) : Ints w v xs :=
  ownsRow_rd h.1 fun j hj => getElem?_ivs xs j hj
theorem OwnI.below {T : TypeId} {w w' : World} {lo hi : Nat} {v : Value} {xs : List Int} (h : OwnI T w lo hi v xs) (hb : Below w.heap.size w w') : OwnI T w' lo hi v xs := Own.below h hb
theorem OwnI.frm {T : TypeId} {w w' : World} {lo hi lo' hi' : Nat} {v : Value} {xs : List Int} (h : OwnI T w lo hi v xs) (hb : Frm lo' hi' w w') (ho : hi ≤ lo' ∨ hi' ≤ lo) : OwnI T w' lo hi v xs := Own.frm h hb ho

/-- a whole block of one-cell elements, as an owned slice -/
theorem rowIs_owns {w : World} {b : Nat} {T : TypeId} {n : Nat} {f : Nat → Value} (h : w.rowIs b T n f) (hm : n ≤ maxLen) {xs : List Value} (hl : xs.length = n) (hf : ∀ j, j < n → xs[j]? = some (f j)) :
    w.ownsRow b T 1 (.slice (some ⟨b, 0, none⟩) n n) n xs := by
  obtain ⟨c, hb, hn, hc⟩ := h
  refine ⟨by omega, .inr ⟨b, n, c, rfl, Nat.le_refl _, hb, Nat.le_refl _, hm, by omega, ?_⟩⟩
  rw [Nat.mul_one, List.take_of_length_le (by simp [hn])]
  apply List.ext_getElem?
  intro i
  by_cases hi : i < n
  · rw [hf i hi, Array.getElem?_toList, hc i hi]
  · rw [List.getElem?_eq_none (by simp; omega), List.getElem?_eq_none (by omega)]
theorem rowIs_ints {w : World} {b : Nat} {T : TypeId} {xs : List Int} (h : w.rowIs b T xs.length (iv xs)) (hm : xs.length ≤ maxLen) :
    OwnI T w b w.heap.size (.slice (some ⟨b, 0, none⟩) xs.length xs.length) xs :=
  Own.of_row (rowIs_owns h hm (length_ivs xs) fun j hj => getElem?_ivs xs j hj)
/-- an owned slice, its block laid open -/
theorem Own.row {w : World} {lo hi : Nat} {T : TypeId} {v : Value} {n : Nat} {xs : List Value} (h : Own w lo hi T 1 v n xs) :
    (v = .slice none 0 0 ∧ n = 0 ∧ xs = []) ∨ ∃ g cap F, v = .slice (some ⟨g, 0, none⟩) n cap ∧ lo ≤ g ∧ g < hi ∧ n ≤ cap ∧ cap ≤ maxLen ∧ w.rowIs g T cap F ∧ ∀ j, j < n → xs[j]? = some (F j) := by
  obtain ⟨⟨hl, hr⟩, hh⟩ := h
  rcases hr with ⟨rfl, rfl⟩ | ⟨g, cap, cur, rfl, hb, hg, hn, hm, hs, ht⟩
  · exact .inl ⟨rfl, rfl, List.eq_nil_of_length_eq_zero (by omega)⟩
  · refine .inr ⟨g, cap, fun j => cur.getD j undef, rfl, hb, hh g rfl, hn, hm, ⟨cur, hg, by omega, fun i hi => ?_⟩, fun j hj => ?_⟩
    · simp [show i < cur.size by omega]
    · rw [← ht, List.getElem?_take, if_pos (by omega), Array.getElem?_toList]
      simp [show j < cur.size by omega]
theorem Own.of_rowIs {w : World} {lo hi g n cap : Nat} {T : TypeId} {F : Nat → Value} (h : w.rowIs g T cap F) (h1 : lo ≤ g) (h2 : g < hi) (h3 : n ≤ cap) (h4 : cap ≤ maxLen) {xs : List Value} (hl : xs.length = n) (hf : ∀ j, j < n → xs[j]? = some (F j)) :
    Own w lo hi T 1 (.slice (some ⟨g, 0, none⟩) n cap) n xs := by
  obtain ⟨c, hb, hn, hc⟩ := h
  refine ⟨⟨by omega, .inr ⟨g, cap, c, rfl, h1, hb, h3, h4, by omega, ?_⟩⟩, fun k hk => by simp [Value.ownBlock] at hk; omega⟩
  apply List.ext_getElem?
  intro i
  rw [Nat.mul_one, List.getElem?_take]
  by_cases hi : i < n
  · rw [if_pos hi, hf i hi, Array.getElem?_toList, hc i (by omega)]
  · rw [if_neg hi, List.getElem?_eq_none (by omega)]

/-! ### owned slices of one-cell elements, the content said by the index -/

def OwnF (w : World) (lo hi : Nat) (T : TypeId) (v : Value) (n : Nat) (f : Nat → Value) : Prop :=
  ∃ xs, Own w lo hi T 1 v n xs ∧ ∀ j, j < n → xs[j]? = some (f j)

namespace OwnF
variable {w w' : World} {lo hi : Nat} {T : TypeId} {v : Value} {n : Nat} {f : Nat → Value}

theorem shape (h : OwnF w lo hi T v n f) : ∃ p cap, v = .slice p n cap ∧ n ≤ cap ∧ cap ≤ maxLen ∧ (0 < n → ∃ g, p = some ⟨g, 0, none⟩ ∧ lo ≤ g ∧ g < hi ∧ g < w.heap.size) := by
  obtain ⟨xs, h, _⟩ := h
  rcases Own.row h with ⟨rfl, rfl, _⟩ | ⟨g, cap, F, rfl, h1, h2, h3, h4, hr, _⟩
  · exact ⟨none, 0, rfl, Nat.le_refl _, Nat.zero_le _, fun h => absurd h (Nat.lt_irrefl _)⟩
  · exact ⟨_, cap, rfl, h3, h4, fun _ => ⟨g, rfl, h1, h2, hr.lt⟩⟩
theorem at_ {p : Option Addr} {cap : Nat} (h : OwnF w lo hi T (.slice p n cap) n f) (h0 : 0 < n) : ∃ g, p = some ⟨g, 0, none⟩ ∧ lo ≤ g ∧ g < hi ∧ g < w.heap.size := by
  obtain ⟨p', cap', e, _, _, h⟩ := h.shape
  injection e with e1 e2 e3
  subst e1
  exact h h0
theorem le {p : Option Addr} {m cap : Nat} (h : OwnF w lo hi T (.slice p m cap) n f) : m = n ∧ n ≤ cap ∧ cap ≤ maxLen := by
  obtain ⟨p', cap', e, h1, h2, _⟩ := h.shape
  injection e with e1 e2 e3
  omega
theorem opened {g n' cap : Nat} (h : OwnF w lo hi T (.slice (some ⟨g, 0, none⟩) n' cap) n f) : ∃ F, w.rowIs g T cap F ∧ (∀ j, j < n → F j = f j) ∧ lo ≤ g ∧ g < hi ∧ n ≤ cap ∧ cap ≤ maxLen ∧ n' = n := by
  obtain ⟨xs, h, hf⟩ := h
  rcases Own.row h with ⟨e, _, _⟩ | ⟨g', cap', F, e, h1, h2, h3, h4, hr, hF⟩
  · injection e with e1; cases e1
  · injection e with e1 e2 e3
    injection e1 with e1
    injection e1 with e1
    subst e1 e2 e3
    exact ⟨F, hr, fun j hj => Option.some.inj ((hF j hj).symm.trans (hf j hj)), h1, h2, h3, h4, rfl⟩
theorem mk' {g cap : Nat} {F : Nat → Value} (h : w.rowIs g T cap F) (h1 : lo ≤ g) (h2 : g < hi) (h3 : n ≤ cap) (h4 : cap ≤ maxLen) (hf : ∀ j, j < n → F j = f j) : OwnF w lo hi T (.slice (some ⟨g, 0, none⟩) n cap) n f :=
  ⟨(List.range n).map f, Own.of_rowIs h h1 h2 h3 h4 (by simp) (fun j hj => by simp [hj, hf j hj]), fun j hj => by simp [hj]⟩
theorem cell {g n' cap : Nat} (h : OwnF w lo hi T (.slice (some ⟨g, 0, none⟩) n' cap) n f) {j : Nat} (hj : j < n) : w.cell? ⟨g, j, none⟩ = some (f j) := by
  obtain ⟨F, hr, hF, _, _, h3, _⟩ := h.opened
  rw [hr.cell (by omega), hF j hj]
theorem frozen {g n' cap : Nat} (h : OwnF w lo hi T (.slice (some ⟨g, 0, none⟩) n' cap) n f) (j : Nat) : w.frozen? ⟨g, j, none⟩ = false := by
  obtain ⟨F, hr, _⟩ := h.opened
  exact hr.frozen j
theorem set {g n' cap : Nat} (h : OwnF w lo hi T (.slice (some ⟨g, 0, none⟩) n' cap) n f) (k : Nat) (u : Value) : OwnF (w.setCell ⟨g, k, none⟩ u) lo hi T (.slice (some ⟨g, 0, none⟩) n' cap) n (fun j => if j = k then u else f j) := by
  obtain ⟨F, hr, hF, h1, h2, h3, h4, rfl⟩ := h.opened
  exact mk' (hr.set k u) h1 h2 h3 h4 fun j hj => by by_cases e : j = k <;> simp [e, hF j hj]
theorem congr {f' : Nat → Value} (h : OwnF w lo hi T v n f) (e : ∀ j, j < n → f j = f' j) : OwnF w lo hi T v n f' := by
  obtain ⟨xs, h, hf⟩ := h
  exact ⟨xs, h, fun j hj => by rw [hf j hj, e j hj]⟩
theorem keep (h : OwnF w lo hi T v n f) (hb : ∀ k, lo ≤ k → k < hi → k < w.heap.size → w'.heap[k]? = w.heap[k]?) : OwnF w' lo hi T v n f := by
  obtain ⟨xs, h, hf⟩ := h
  exact ⟨xs, h.keep hb, hf⟩
theorem below (h : OwnF w lo hi T v n f) (hb : Below w.heap.size w w') : OwnF w' lo hi T v n f := h.keep fun k _ _ h3 => hb.block k h3
theorem frm {lo' hi' : Nat} (h : OwnF w lo hi T v n f) (hb : Frm lo' hi' w w') (ho : hi ≤ lo' ∨ hi' ≤ lo) : OwnF w' lo hi T v n f := h.keep fun k h1 h2 h3 => hb.block k h3 (by omega)
theorem mono {lo' hi' : Nat} (h : OwnF w lo hi T v n f) (h1 : lo' ≤ lo) (h2 : hi ≤ hi') : OwnF w lo' hi' T v n f := by
  obtain ⟨xs, h, hf⟩ := h
  exact ⟨xs, h.mono h1 h2, hf⟩
theorem rd (h : OwnF w lo hi T v n f) : Rd w v n f := by
  obtain ⟨xs, h, hf⟩ := h
  exact ownsRow_rd h.1 hf
theorem ints {xs : List Int} (h : OwnF w lo hi T v xs.length (iv xs)) : OwnI T w lo hi v xs := by
  obtain ⟨ys, h, hf⟩ := h
  obtain rfl : ys = ivs xs := by
    apply List.ext_getElem?
    intro j
    by_cases hj : j < xs.length
    · rw [hf j hj, getElem?_ivs xs j hj]
    · rw [List.getElem?_eq_none (by have := h.len; omega), List.getElem?_eq_none (by rw [length_ivs]; omega)]
  exact h
end OwnF
theorem OwnI.fn {T : TypeId} {w : World} {lo hi : Nat} {v : Value} {xs : List Int} (h : OwnI T w lo hi v xs) : OwnF w lo hi T v xs.length (iv xs) := ⟨_, h, fun j hj => getElem?_ivs xs j hj⟩
/-- a store into an owned block -/
theorem Frm.setCell {lo hi : Nat} {a w : World} (h : Frm lo hi a w) {p : Addr} (h1 : lo ≤ p.block) (h2 : p.block < hi) (u : Value) : Frm lo hi a (w.setCell p u) :=
  h.trans ⟨rfl, rfl, rfl, by simp [World.setCell], fun k hk ho => Below.heap_setCell _ _ _ _ (by omega)⟩

/-! ### blocks of a struct -/

theorem heap_alloc_top (w : World) (o : Obj) : (w.alloc o).heap[w.heap.size]? = some o := heap_alloc_new w o
theorem heap_alloc_at (w : World) (o : Obj) {k : Nat} (h : k = w.heap.size) : (w.alloc o).heap[k]? = some o := by rw [h]; exact heap_alloc_top w o
theorem below_alloc (w : World) (o : Obj) : Below w.heap.size w (w.alloc o) := (Below.refl _ _).alloc (Nat.le_refl _) _
theorem below_alloc2 (w : World) (o p : Obj) : Below w.heap.size w ((w.alloc o).alloc p) := (below_alloc w o).alloc (by simp) _
theorem below_alloc3 (w : World) (o p q : Obj) : Below w.heap.size w (((w.alloc o).alloc p).alloc q) := (below_alloc2 w o p).alloc (by simp; omega) _
theorem heap_alloc_low (w : World) (o : Obj) {k : Nat} (h : k < w.heap.size) : (w.alloc o).heap[k]? = w.heap[k]? := heap_alloc_old w o h
theorem size_alloc (w : World) (o : Obj) : (w.alloc o).heap.size = w.heap.size + 1 := by simp
theorem cell_of_blk {w : World} {b : Nat} {c : Array Value} {T : TypeId} {q : Nat × Nat} (h : w.heap[b]? = some (.cells c T q)) {j : Nat} {x : Value} (hj : c[j]? = some x) : w.cell? ⟨b, j, none⟩ = some x := by
  simp [World.cell?, h, hj]
theorem free_of_blk {w : World} {b : Nat} {c : Array Value} {T : TypeId} (h : w.heap[b]? = some (.cells c T (0, 0))) (j : Nat) : w.frozen? ⟨b, j, none⟩ = false := by
  simp [World.frozen?, h]
theorem heap_setCell_at {w : World} {b : Nat} {c : Array Value} {T : TypeId} {q : Nat × Nat} (h : w.heap[b]? = some (.cells c T q)) (j : Nat) (u : Value) : (w.setCell ⟨b, j, none⟩ u).heap[b]? = some (.cells (c.setIfInBounds j u) T q) := by
  simp [World.setCell, Array.getElem?_modify, h]

theorem blk4 {w : World} {b : Nat} {x0 x1 x2 x3 : Value} {T : TypeId} (h : w.heap[b]? = some (.cells #[x0, x1, x2, x3] T (0, 0))) :
    w.cell? ⟨b, 0, none⟩ = some x0 ∧ w.cell? ⟨b, 1, none⟩ = some x1 ∧ w.cell? ⟨b, 2, none⟩ = some x2 ∧ w.cell? ⟨b, 3, none⟩ = some x3 ∧ (∀ j, w.frozen? ⟨b, j, none⟩ = false) ∧ b < w.heap.size :=
  ⟨cell_of_blk h rfl, cell_of_blk h rfl, cell_of_blk h rfl, cell_of_blk h rfl, free_of_blk h, (Array.getElem?_eq_some_iff.1 h).1⟩
theorem OwnI.shape {T : TypeId} {w : World} {lo hi : Nat} {v : Value} {xs : List Int} (h : OwnI T w lo hi v xs) : ∃ p cap, v = .slice p xs.length cap ∧ xs.length ≤ cap ∧ cap ≤ maxLen := by
  obtain ⟨p, cap, e, h1, h2, _⟩ := h.fn.shape
  exact ⟨p, cap, e, h1, h2⟩

theorem Own.setCell {w : World} {lo hi : Nat} {T : TypeId} {size : Nat} {v : Value} {n : Nat} {xs : List Value} (h : Own w lo hi T size v n xs) {a : Addr} (ho : a.block < lo ∨ hi ≤ a.block) (u : Value) : Own (w.setCell a u) lo hi T size v n xs :=
  h.keep fun k h1 h2 _ => Below.heap_setCell _ _ _ _ (by omega)
theorem OwnI.setCell {T : TypeId} {w : World} {lo hi : Nat} {v : Value} {xs : List Int} (h : OwnI T w lo hi v xs) {a : Addr} (ho : a.block < lo ∨ hi ≤ a.block) (u : Value) : OwnI T (w.setCell a u) lo hi v xs := Own.setCell h ho u
theorem OwnI.mono {T : TypeId} {w : World} {lo hi lo' hi' : Nat} {v : Value} {xs : List Int} (h : OwnI T w lo hi v xs) (h1 : lo' ≤ lo) (h2 : hi ≤ hi') : OwnI T w lo' hi' v xs := Own.mono h h1 h2
theorem size_setCell (w : World) (a : Addr) (u : Value) : (w.setCell a u).heap.size = w.heap.size := by simp [World.setCell]

theorem OwnF.setCell {w : World} {lo hi : Nat} {T : TypeId} {v : Value} {n : Nat} {f : Nat → Value} (h : OwnF w lo hi T v n f) {a : Addr} (ho : a.block < lo ∨ hi ≤ a.block) (u : Value) : OwnF (w.setCell a u) lo hi T v n f :=
  h.keep fun k h1 h2 _ => Below.heap_setCell _ _ _ _ (by omega)
/-- the four cells of a struct are written -/
theorem below_set4 {B : Nat} {a w : World} (h : Below B a w) {b : Nat} (hb : B ≤ b) (x0 x1 x2 x3 : Value) :
    Below B a ((((w.setCell ⟨b, 0, none⟩ x0).setCell ⟨b, 1, none⟩ x1).setCell ⟨b, 2, none⟩ x2).setCell ⟨b, 3, none⟩ x3) :=
  (((h.setCell hb _).setCell hb _).setCell hb _).setCell hb _
theorem own_set4 {T : TypeId} {w : World} {lo hi : Nat} {v : Value} {xs : List Int} (h : OwnI T w lo hi v xs) {b : Nat} (hb : b < lo ∨ hi ≤ b) (x0 x1 x2 x3 : Value) :
    OwnI T ((((w.setCell ⟨b, 0, none⟩ x0).setCell ⟨b, 1, none⟩ x1).setCell ⟨b, 2, none⟩ x2).setCell ⟨b, 3, none⟩ x3) lo hi v xs :=
  (((h.setCell hb _).setCell hb _).setCell hb _).setCell hb _

/-- a block that was there is there later -/
theorem blk_later {w w' : World} {b : Nat} {o : Obj} (h : w.heap[b]? = some o) (hb : Below w.heap.size w w') : w'.heap[b]? = some o := by
  rw [hb.block b (Array.getElem?_eq_some_iff.1 h).1]; exact h
theorem blk_lt {w : World} {b : Nat} {o : Obj} (h : w.heap[b]? = some o) : b < w.heap.size := (Array.getElem?_eq_some_iff.1 h).1

/-- a part of a slice -/
theorem Rd.part {w : World} {b off n cap : Nat} {f : Nat → Value} (h : Rd w (.slice (some ⟨b, off, none⟩) n cap) n f) (lo m c : Nat) (hm : lo + m ≤ n) (hc : m ≤ c) (hc2 : c ≤ maxLen) :
    Rd w (.slice (some ⟨b, off + lo, none⟩) m c) m (fun j => f (lo + j)) := by
  obtain ⟨p', cap', e, hh, h⟩ := h
  injection e with e1 e2 e3
  subst e1 e3
  refine ⟨_, c, rfl, ⟨hc, hc2⟩, fun h0 => ?_⟩
  obtain ⟨b', off', e1, hx⟩ := h (by omega)
  injection e1 with e1
  injection e1 with e1 e2
  subst e1 e2
  exact ⟨b, off + lo, rfl, fun j hj => by rw [Nat.add_assoc]; exact hx _ (by omega)⟩

theorem getD_lt {xs : List Int} {k : Nat} (h : k < xs.length) : xs.getD k 0 = xs[k] := by simp [List.getD_eq_getElem?_getD, h]
theorem getD_eq_list {xs ys : List Int} (hl : xs.length = ys.length) (h : ∀ j, j < xs.length → xs.getD j 0 = ys.getD j 0) : xs = ys := by
  apply List.ext_getElem hl
  intro i h1 h2
  have := h i h1
  simpa [List.getD_eq_getElem?_getD, h1, h2] using this

/-- a contract that leaves the world as it is, met inside a region that draws -/
theorem quiet_same {P : Program} {f : FuncId} {args : Array Value} {w : World} {n : Nat} {v : Value}
    (h : Calls P f args (w.drewN n) fun e w' => e = .returned v ∧ w.drewN n = w') : Calls P f args (w.drewN n) fun e w'' => e = .returned v ∧ ∃ m, w'' = w.drewN m :=
  h.mono fun _ _ ⟨he, hm⟩ => ⟨he, n, hm.symm⟩

/-! ### numbers -/

theorem w64 {n : Int} (h0 : -1000000000000000000 ≤ n) (h1 : n ≤ 1000000000000000000) : wrap64 n = n := IntWalk.wrap64_in n (by omega)
theorem k64 {n : Int} (h0 : -1000000000000000000 ≤ n) (h1 : n ≤ 1000000000000000000) : IntKind.i64.wrap n = n := IntWalk.i64_in n (by omega)
/-- a product of two counts that is small, under a name -/
theorem mul_named (a b : Nat) (h : a * b ≤ 1000000000000000000) : ∃ N, N = a * b ∧ wrap64 ((a : Int) * (b : Int)) = (N : Int) ∧ IntKind.i64.wrap ((a : Int) * (b : Int)) = (N : Int) := by
  have e : ((a * b : Nat) : Int) = (a : Int) * (b : Int) := Int.natCast_mul a b
  refine ⟨a * b, rfl, ?_, ?_⟩
  · rw [← e]; exact w64 (by omega) (by omega)
  · rw [← e]; exact k64 (by omega) (by omega)

/-- the ends of row i of rows of so many numbers -/
theorem row_named (i c : Nat) (h : i * c + c ≤ 1000000000000000000) : ∃ K, K = i * c ∧ Hid (wrap64 ((i : Int) * (c : Int)) = (K : Int) ∧ wrap64 (((i : Int) + 1) * (c : Int)) = (K : Int) + (c : Int)) ∧
    Hid (IntKind.i64.wrap ((i : Int) * (c : Int)) = (K : Int) ∧ IntKind.i64.wrap (((i : Int) + 1) * (c : Int)) = (K : Int) + (c : Int)) := by
  obtain ⟨K, hK, h1, h2⟩ := mul_named i c (by omega)
  have e : ((i : Int) + 1) * (c : Int) = (K : Int) + (c : Int) := by rw [Int.add_mul, hK, Int.natCast_mul, Int.one_mul]
  refine ⟨K, hK, ⟨h1, ?_⟩, ⟨h2, ?_⟩⟩
  · rw [e]; exact w64 (by omega) (by omega)
  · rw [e]; exact k64 (by omega) (by omega)

theorem ret_bool {a b : Bool} (h : a = b) : Ending.returned (.bool a) = .returned (.bool b) := by rw [h]
theorem ret_int {k : IntKind} {a b : Int} (h : a = b) : Ending.returned (.int k a) = .returned (.int k b) := by rw [h]

/-- n numbers in a row, from m on -/
def runs (m : Int) (n : Nat) : List Int := (List.range n).map fun (i : Nat) => m + (i : Int)
theorem length_runs (m : Int) (n : Nat) : (runs m n).length = n := by simp [runs]
theorem getD_runs (m : Int) (n j : Nat) (h : j < n) : (runs m n).getD j 0 = m + j := by simp [runs, List.getD_eq_getElem?_getD, h]
theorem iv_runs (m : Int) (n j : Nat) (h : j < n) : iv (runs m n) j = .int .i64 (m + j) := by simp only [iv, getD_runs m n j h]
theorem runs_zero (m : Int) : runs m 0 = [] := rfl

end Go.Proofs.YtnpghgpejnlebaaGreat

namespace Go.Proofs.YtnpghgpejnlebaaGreat
set_option linter.all false
open Go.RowKit

theorem row_ints {w : World} {a : Option Addr} {len cap : Nat} {zs : List Int}
    (h : (a = none ∧ len = 0 ∧ cap = 0 ∧ zs = []) ∨ ∃ x, a = some x ∧ len ≤ cap ∧ cap ≤ maxLen ∧ zs.length = cap ∧ (∀ i, i < zs.length → w.cell? (x.add i) = some (.int .i64 (zs.getD i 0))) ∧ ∀ n ∈ zs, (Lit.int .i64 n).wf = true) :
    Ints w (.slice a len cap) (zs.take len) := by
  rcases h with ⟨rfl, rfl, rfl, rfl⟩ | ⟨x, rfl, hl, hm, hz, hc, _⟩
  · exact ⟨none, 0, rfl, ⟨Nat.le_refl _, Nat.zero_le _⟩, fun h => absurd h (by simp)⟩
  · have hlen : (zs.take len).length = len := by rw [List.length_take]; omega
    unfold Ints
    rw [hlen]
    refine ⟨some x, cap, rfl, ⟨hl, hm⟩, fun h0 => ?_⟩
    have h0' := hc 0 (by omega)
    obtain ⟨b, off, spot⟩ := x
    have hs : spot = none := by
      cases spot with
      | none => rfl
      | some s => simp [Addr.add, World.cell?] at h0'; split at h0' <;> simp_all
    subst hs
    refine ⟨b, off, rfl, fun j hj => ?_⟩
    have hadd : (⟨b, off, none⟩ : Addr).add j = ⟨b, off + j, none⟩ := by unfold Addr.add; split <;> simp_all
    rw [← hadd, hc j (by omega)]
    simp [iv, List.getD_eq_getElem?_getD, hj]

end Go.Proofs.YtnpghgpejnlebaaGreat

namespace Go.Proofs.YtnpghgpejnlebaaGreat
set_option linter.all false
open Go.ChangeShapes Go.WideShapes Go.RowKit Go.Deep Go.WideElems Go.Maps

theorem trod_ints {H : Type} {enc : TypeId × Value → H} {P : Program} {W : World} {n : Nat} {t e : TypeId} {v : Value} {y : DataW H × List MemPlace}
    (ht : P.underlying t = some (.slice e)) (he : P.underlying e = some (.int .i64)) (hc : P.cellsOf e = 1)
    (h : DataW.trod enc P W 0 (fun _ => true) true n t [v] = some y) : ∃ xs, Ints W v xs := by
  rcases open_ints ht he hc h with ⟨hcs, _⟩ | ⟨x, l, c, zs, hcs, _, hl, hm, hz, _, hcell, hwz⟩
  · obtain rfl : v = .slice none 0 0 := by simpa using hcs
    exact ⟨_, row_ints (zs := []) (.inl ⟨rfl, rfl, rfl, rfl⟩)⟩
  · obtain rfl : v = .slice (some x) l c := by simpa using hcs
    exact ⟨_, row_ints (.inr ⟨_, rfl, hl, hm, by simpa using hz, hcell, hwz⟩)⟩

theorem trod_mx {H : Type} {enc : TypeId × Value → H} {P : Program} {W : World} {b0 : Nat} {t e : TypeId} {f0 f1 f2 f3 : Field} {v : Value} {d : DataW H} {p : List MemPlace}
    (hs : P.underlying t = some (.struct #[f0, f1, f2, f3])) (hone : oneCellFields P #[f0, f1, f2, f3] = true) (hC : P.cellsOf t = 4)
    (h0 : P.underlying f0.type = some (.int .i64)) (h1 : P.underlying f1.type = some (.int .i64)) (h2 : P.underlying f2.type = some (.int .i64)) (h3 : P.underlying f3.type = some (.slice e))
    (he : P.underlying e = some (.int .i64)) (hc : P.cellsOf e = 1)
    (hv : Value.okWide P W .any b0 t v) (h : DataW.Trod enc P W 0 (fun _ => true) true t v d p) :
    ∃ (aP aR aC : Int) (u : Value) (X : List Int), v = .agg #[.int .i64 aP, .int .i64 aR, .int .i64 aC, u] ∧ Ints W u X := by
  obtain ⟨v0, v1, v2, v3, y0, y1, y2, y3, n, rfl, _, _, g0, g1, g2, g3⟩ := Go.Joins.open_agg4 hs hone hC hv h
  obtain ⟨n0, e0, _, _⟩ := DataW.trod_int h0 g0
  obtain ⟨n1, e1, _, _⟩ := DataW.trod_int h1 g1
  obtain ⟨n2, e2, _, _⟩ := DataW.trod_int h2 g2
  obtain ⟨X, hX⟩ := trod_ints h3 he hc g3
  obtain rfl : v0 = .int .i64 n0 := by simpa using e0
  obtain rfl : v1 = .int .i64 n1 := by simpa using e1
  obtain rfl : v2 = .int .i64 n2 := by simpa using e2
  exact ⟨_, _, _, _, _, rfl, hX⟩

end Go.Proofs.YtnpghgpejnlebaaGreat

namespace Go.Proofs.YtnpghgpejnlebaaGreat
set_option linter.all false
open Go.RowKit

theorem info_int : (Tryz.prog.info? 3).map (fun i => (i.zero, i.size, i.bytes)) = some (some (.int .i64 0), 1, 8) := by kernel_rfl

theorem eq_snoc {xs ys : List Int} {k : Nat} (h : ∀ j, j < k → xs.getD j 0 = ys.getD j 0) (e : xs.getD k 0 = ys.getD k 0) : ∀ j, j < k + 1 → xs.getD j 0 = ys.getD j 0 := by
  intro j hj
  by_cases hk : j = k
  · subst hk; exact e
  · exact h j (by omega)

/-- is slot after slot m, m+1, ..? then what comes behind; else -1 -/
def heldI (xs : List Int) (m : Int) : Int := if xs = runs m xs.length then m + xs.length else -1

theorem heldI_runs (m : Int) (n : Nat) : heldI (runs m n) m = m + n := by simp [heldI, length_runs]

end Go.Proofs.YtnpghgpejnlebaaGreat

namespace Go.Proofs.YtnpghgpejnlebaaGreat
set_option linter.all false
open Go.RowKit

/-- a matrix: the prime, the numbers of rows and columns, the numbers row by row -/
structure Mx where
  P : Int
  R : Int
  C : Int
  D : List Int

def mxZero : Mx := ⟨0, 0, 0, []⟩

/-- a call returned this matrix, in new memory, and changed nothing that was there -/
def RetM (w : World) (m : Mx) (e : Ending) (w' : World) : Prop :=
  ∃ u, e = .returned (.agg #[.int .i64 m.P, .int .i64 m.R, .int .i64 m.C, u]) ∧ OwnI 3 w' w.heap.size w'.heap.size u m.D ∧ Below w.heap.size w w'
/-- a call returned this matrix and this bool .. -/
def RetMB (w : World) (m : Mx) (b : Bool) (e : Ending) (w' : World) : Prop :=
  ∃ u, e = .returned (.tuple #[.agg #[.int .i64 m.P, .int .i64 m.R, .int .i64 m.C, u], .bool b]) ∧ OwnI 3 w' w.heap.size w'.heap.size u m.D ∧ Below w.heap.size w w'

/-- what is left of a limit behind n elements; -1: none -/
def szI (left : Int) (n : Nat) : Int := if left < n then -1 else left - n

/-- two matrices are the same -/
def mxSame (P R C : Int) (xs : List Int) (P' R' C' : Int) (ys : List Int) : Bool := decide (P = P' ∧ R = R' ∧ C = C' ∧ xs = ys)

theorem Frm.below_left {lo hi : Nat} {a b c : World} (h : Below a.heap.size a b) (k : Frm lo hi b c) : Frm lo hi a c := (Frm.of_below h lo hi).trans k

theorem heldI_neg (xs : List Int) (m : Int) (h0 : 0 ≤ m) : heldI xs m = -1 ∨ 0 ≤ heldI xs m := by
  unfold heldI; split <;> omega
theorem heldI_le (xs : List Int) (m : Int) (h0 : 0 ≤ m) : heldI xs m ≤ m + xs.length := by
  unfold heldI; split <;> omega

theorem Frm.blk {lo hi : Nat} {w w' : World} {b : Nat} {o : Obj} (hf : Frm lo hi w w') (h : w.heap[b]? = some o) (ho : b < lo ∨ hi ≤ b) : w'.heap[b]? = some o := by
  rw [hf.block b (blk_lt h) ho]; exact h
theorem OwnI.lohi {T : TypeId} {w : World} {lo hi : Nat} {v : Value} {xs : List Int} (h : OwnI T w lo hi v xs) : xs.length ≤ maxLen := by
  obtain ⟨p, cap, _, h1, h2⟩ := h.shape
  omega

end Go.Proofs.YtnpghgpejnlebaaGreat

namespace Go.Proofs.YtnpghgpejnlebaaGreat
set_option linter.all false
open Go.RowKit

/-- a permutation: from 1 to 7 numbers, each from 0 on and below their count, none twice -/
def permOk (w : List Int) : Bool := decide (1 ≤ w.length ∧ w.length ≤ 7 ∧ (∀ x ∈ w, 0 ≤ x ∧ x < (w.length : Int)) ∧ w.Nodup)
/-- the numbers of the first k places are in range and none is there twice -/
def permUpto (w : List Int) (k : Nat) : Prop := (∀ x ∈ w.take k, 0 ≤ x ∧ x < (w.length : Int)) ∧ (w.take k).Nodup

theorem take_snoc (xs : List Int) (k : Nat) (h : k < xs.length) : xs.take (k + 1) = xs.take k ++ [xs.getD k 0] := by
  rw [List.take_succ_eq_append_getElem h]; simp [List.getD_eq_getElem?_getD, h]
theorem permUpto_zero (w : List Int) : permUpto w 0 := by simp [permUpto]
theorem permUpto_succ {w : List Int} {k : Nat} (hk : k < w.length) (h : permUpto w k) (h0 : 0 ≤ w.getD k 0) (h1 : w.getD k 0 < (w.length : Int)) (h2 : w.getD k 0 ∉ w.take k) : permUpto w (k + 1) := by
  unfold permUpto
  rw [take_snoc w k hk]
  refine ⟨fun x hx => ?_, ?_⟩
  · rcases List.mem_append.1 hx with hx | hx
    · exact h.1 x hx
    · obtain rfl := List.mem_singleton.1 hx
      exact ⟨h0, h1⟩
  · rw [List.nodup_append]
    refine ⟨h.2, by simp, fun a ha b hb => ?_⟩
    obtain rfl := List.mem_singleton.1 hb
    exact fun e => h2 (e ▸ ha)
theorem permOk_of_upto {w : List Int} (h1 : 1 ≤ w.length) (h7 : w.length ≤ 7) (h : permUpto w w.length) : permOk w = true := by
  unfold permUpto at h
  rw [List.take_length] at h
  simp only [permOk, decide_eq_true_eq]
  exact ⟨h1, h7, h.1, h.2⟩
theorem getD_mem {w : List Int} {k : Nat} (hk : k < w.length) : w.getD k 0 ∈ w := by
  simp [List.getD_eq_getElem?_getD, hk]
theorem not_permOk_len {w : List Int} (h : ¬ (1 ≤ w.length ∧ w.length ≤ 7)) : permOk w = false := by
  simp only [permOk, decide_eq_false_iff_not]
  exact fun e => h ⟨e.1, e.2.1⟩
theorem not_permOk_range {w : List Int} {k : Nat} (hk : k < w.length) (h : ¬ (0 ≤ w.getD k 0 ∧ w.getD k 0 < (w.length : Int))) : permOk w = false := by
  simp only [permOk, decide_eq_false_iff_not]
  exact fun e => h (e.2.2.1 _ (getD_mem hk))
theorem not_permOk_twice {w : List Int} {k : Nat} (hk : k < w.length) (h : w.getD k 0 ∈ w.take k) : permOk w = false := by
  simp only [permOk, decide_eq_false_iff_not]
  intro e
  have hn := e.2.2.2
  rw [← List.take_append_drop k w, List.nodup_append] at hn
  refine hn.2.2 _ h _ ?_ rfl
  rw [List.mem_iff_getElem?]
  exact ⟨0, by simp [List.getD_eq_getElem?_getD, hk]⟩

theorem Rd.take {w : World} {p : Option Addr} {n cap : Nat} {f : Nat → Value} (h : Rd w (.slice p n cap) n f) (k : Nat) (hk : k ≤ n) : Rd w (.slice p k cap) k f := by
  obtain ⟨p', cap', e, hm, h⟩ := h
  injection e with e1 e2 e3
  subst e1 e3
  exact ⟨p, cap, rfl, by omega, fun h0 => by obtain ⟨b, off, hp, hc⟩ := h (by omega); exact ⟨b, off, hp, fun j hj => hc j (by omega)⟩⟩
theorem Ints.take {w : World} {p : Option Addr} {cap : Nat} {xs : List Int} (h : Ints w (.slice p xs.length cap) xs) (k : Nat) (hk : k ≤ xs.length) : Ints w (.slice p k cap) (xs.take k) := by
  have hl : (xs.take k).length = k := by rw [List.length_take]; omega
  unfold Ints
  rw [hl]
  exact (Rd.take h k hk).congr fun j hj => by simp [iv, List.getD_eq_getElem?_getD, List.getElem?_take, hj]

set_option maxHeartbeats 400000 in
theorem l1Has_any (v : Value) (xs : List Int) (x : Int) (w : World) (h : Ints w v xs) :
    Calls Tryz.prog 34 #[v, .int .i64 x] w fun e w' => e = .returned (.bool (decide (x ∈ xs))) ∧ Qt w w' := by
  obtain ⟨p, cap, rfl, ⟨hx1, hx⟩, hxc⟩ := h
  unfold maxLen at hx
  go_enter Tryz.func34, Tryz.ntmps34
  go_wp2
  go_loopg [5] xs.length (fun g i wr => ∃ k : Nat, k ≤ xs.length ∧ g = xs.length - k ∧ i = .int .i64 k ∧ wr = w ∧ Hid (x ∉ xs.take k))
  case atStart => exact ⟨0, Nat.zero_le _, rfl, rfl, rfl, by simp [Hid]⟩
  case round =>
    obtain ⟨k, hk, rfl, rfl, rfl, hp⟩ := hrel
    by_cases hlt : k < xs.length
    · obtain ⟨b, off, rfl, hc⟩ := hxc (by omega)
      have c1 := hc k hlt
      unfold iv at c1
      clear hxc hc
      go_wp2
      · have ht : (xs[k] == x) = true := by assumption
        go_ret
        refine ⟨ret_bool ?_, Qt.refl _⟩
        symm
        simp only [decide_eq_true_eq]
        rw [beq_iff_eq] at ht
        subst ht
        exact List.getElem_mem hlt
      · have ht : (xs[k] == x) = false := by assumption
        go_roundg (xs.length - (k + 1))
        case measure => omega
        case rel =>
          refine ⟨k + 1, by omega, rfl, by go_num, rfl, ?_⟩
          unfold Hid
          rw [take_snoc xs k hlt, List.mem_append]
          rintro (e | e)
          · exact hp.out e
          · rw [beq_eq_false_iff_ne] at ht
            simp [List.getD_eq_getElem?_getD, hlt] at e
            exact ht e.symm
    · go_wp2
      go_ret
      obtain rfl : k = xs.length := by omega
      refine ⟨ret_bool ?_, Qt.refl _⟩
      symm
      simp only [decide_eq_false_iff_not]
      have := hp.out
      rwa [List.take_length] at this

theorem mem_take_succ {xs : List Int} {k : Nat} (h : k < xs.length) (x : Int) : x ∈ xs.take (k + 1) ↔ x ∈ xs.take k ∨ x = xs.getD k 0 := by
  rw [take_snoc xs k h, List.mem_append, List.mem_singleton]

set_option maxHeartbeats 1000000 in
theorem implIsPerm_any (v : Value) (xs : List Int) (w : World) (h : Ints w v xs) :
    Calls Tryz.prog 53 #[v] w fun e w' => e = .returned (.bool (permOk xs)) ∧ Below w.heap.size w w' := by
  obtain ⟨p, cap, rfl, ⟨hx1, hx⟩, hxc⟩ := h
  unfold maxLen at hx
  by_cases hl : 1 ≤ xs.length ∧ xs.length ≤ 7
  · obtain ⟨hl1, hl7⟩ := hl
    have e1 : decide ((xs.length : Int) < 1) = false := by simp; omega
    have e2 : decide (7 < (xs.length : Int)) = false := by simp; omega
    go_enter Tryz.func53, Tryz.ntmps53
    go_wp2
    clear e1 e2
    go_loopg [17] xs.length (fun g i wr => ∃ k : Nat, k ≤ xs.length ∧ g = xs.length - k ∧ i = .int .i64 k ∧ Below w.heap.size w wr ∧ wr.rowIs w.heap.size 95 7 (fun j => .bool (decide ((j : Int) ∈ xs.take k))) ∧ Hid (permUpto xs k))
    case atStart =>
      refine ⟨0, Nat.zero_le _, rfl, rfl, (Below.refl _ _).alloc (Nat.le_refl _) _, World.rowIs_alloc w _ _ _ fun i hi => ?_, permUpto_zero xs⟩
      simp at hi
      match i, hi with
      | 0, _ | 1, _ | 2, _ | 3, _ | 4, _ | 5, _ | 6, _ => simp
    case round =>
      obtain ⟨k, hk, rfl, rfl, hb, hr, hp⟩ := hrel
      by_cases hlt : k < xs.length
      · obtain ⟨b, off, rfl, hc⟩ := hxc (by omega)
        have c1 : wr.cell? ⟨b, off + k, none⟩ = some (.int .i64 (xs.getD k 0)) := by
          rw [hb.cell (p := ⟨b, off + k, none⟩) (World.block_lt_of_cell? _ _ (hc k hlt))]; exact hc k hlt
        clear hxc hc
        by_cases hin : 0 ≤ xs.getD k 0 ∧ xs.getD k 0 < (xs.length : Int)
        · obtain ⟨m, hm⟩ := Int.eq_ofNat_of_zero_le hin.1
          have Hin := Lib.hid hin
          have hml : m < xs.length := by omega
          have Hm := Lib.hid hm
          rw [hm] at c1
          have c2 := hr.cell (i := m) (by omega)
          have c3 := hr.frozen m
          have hs := hr.lt
          clear hin hm
          by_cases hmet : (m : Int) ∈ xs.take k
          · have ht : decide ((m : Int) ∈ xs.take k) = true := decide_eq_true hmet
            rw [ht] at c2
            have Hmet := Lib.hid hmet
            clear ht hmet
            go_wp2
            go_ret
            exact ⟨ret_bool (not_permOk_twice hlt (by rw [Hm.out]; exact Hmet.out)).symm, hb⟩
          · have ht : decide ((m : Int) ∈ xs.take k) = false := decide_eq_false hmet
            rw [ht] at c2
            have Hmet := Lib.hid hmet
            clear ht hmet
            go_wp2
            go_roundg (xs.length - (k + 1))
            case measure => omega
            case rel =>
              refine ⟨k + 1, by omega, rfl, by go_num, hb.setCell (Nat.le_refl _) _, (hr.set m _).congr fun j hj => ?_, permUpto_succ hlt hp.out Hin.out.1 Hin.out.2 (by rw [Hm.out]; exact Hmet.out)⟩
              by_cases e : j = m
              · subst e
                simp only [if_true]
                congr 1
                symm
                rw [decide_eq_true_eq, mem_take_succ hlt]
                exact .inr Hm.out.symm
              · have e' : (j : Int) ≠ xs.getD k 0 := by rw [Hm.out]; omega
                simp only [e, if_false]
                congr 1
                rw [decide_eq_decide, mem_take_succ hlt]
                exact ⟨.inl, fun h => h.resolve_right e'⟩
        · have Hin := Lib.hid hin
          rw [getD_lt hlt] at hin
          by_cases hneg : xs[k] < 0
          · clear hin
            go_wp2
            all_goals
              go_ret
              exact ⟨ret_bool (not_permOk_range hlt Hin.out).symm, hb⟩
          · have hge : (xs.length : Int) ≤ xs[k] := by omega
            clear hin
            go_wp2
            all_goals
              go_ret
              exact ⟨ret_bool (not_permOk_range hlt Hin.out).symm, hb⟩
      · go_wp2
        go_ret
        obtain rfl : k = xs.length := by omega
        exact ⟨ret_bool (permOk_of_upto hl1 hl7 hp.out).symm, hb⟩
  · go_enter Tryz.func53, Tryz.ntmps53
    by_cases h1 : (xs.length : Int) < 1
    · go_wp2
      all_goals
        go_ret
        exact ⟨ret_bool (not_permOk_len hl).symm, Below.refl _ _⟩
    · have h7 : (7 : Int) < xs.length := by omega
      go_wp2
      all_goals
        go_ret
        exact ⟨ret_bool (not_permOk_len hl).symm, Below.refl _ _⟩

end Go.Proofs.YtnpghgpejnlebaaGreat

namespace Go.Proofs.YtnpghgpejnlebaaGreat
set_option linter.all false

theorem flat_length {α : Type} {n : Nat} : ∀ {rows : List (List α)}, (∀ r ∈ rows, r.length = n) → rows.flatten.length = rows.length * n
  | [], _ => by simp
  | r :: rs, h => by
    have h1 := h r (by simp)
    have h2 := flat_length (rows := rs) (fun x hx => h x (by simp [hx]))
    simp only [List.flatten_cons, List.length_append, List.length_cons, h1, h2, Nat.add_mul]
    omega

theorem flat_getElem? {α : Type} {n : Nat} (hn : 0 < n) : ∀ {rows : List (List α)}, (∀ r ∈ rows, r.length = n) → ∀ t, rows.flatten[t]? = (rows[t / n]?).bind fun r => r[t % n]?
  | [], _, t => by simp
  | r :: rs, h, t => by
    have h1 := h r (by simp)
    have ih := flat_getElem? hn (rows := rs) (fun x hx => h x (by simp [hx]))
    simp only [List.flatten_cons]
    by_cases ht : t < n
    · rw [List.getElem?_append_left (by omega), Nat.div_eq_of_lt ht, Nat.mod_eq_of_lt ht]
      simp
    · rw [List.getElem?_append_right (by omega), ih, h1]
      have e1 : t / n = (t - n) / n + 1 := by
        rw [Nat.div_eq, if_pos (by omega)]
      have e2 : t % n = (t - n) % n := Nat.mod_eq_sub_mod (by omega)
      rw [e1, e2]
      simp

theorem flat_getD {n : Nat} (hn : 0 < n) {rows : List (List Int)} (h : ∀ r ∈ rows, r.length = n) (t : Nat) : rows.flatten.getD t 0 = (rows.getD (t / n) []).getD (t % n) 0 := by
  simp only [List.getD_eq_getElem?_getD, flat_getElem? hn h t]
  cases rows[t / n]? <;> simp

/-- row i of a matrix that is given row by row -/
def rowAt (C : Nat) (D : List Int) (i : Nat) : List Int := (D.drop (i * C)).take C
def rowsOf (R C : Nat) (D : List Int) : List (List Int) := (List.range R).map (rowAt C D)

theorem rowAt_length {C : Nat} {D : List Int} {i : Nat} (h : (i + 1) * C ≤ D.length) : (rowAt C D i).length = C := by
  simp only [rowAt, List.length_take, List.length_drop]
  rw [Nat.add_mul] at h
  omega
theorem rowAt_getD {C : Nat} {D : List Int} {i j : Nat} (hj : j < C) : (rowAt C D i).getD j 0 = D.getD (i * C + j) 0 := by
  simp only [rowAt, List.getD_eq_getElem?_getD, List.getElem?_take, if_pos hj, List.getElem?_drop]
theorem rowsOf_length (R C : Nat) (D : List Int) : (rowsOf R C D).length = R := by simp [rowsOf]
theorem rowsOf_getD {R C : Nat} {D : List Int} {i : Nat} (hi : i < R) : (rowsOf R C D).getD i [] = rowAt C D i := by
  simp [rowsOf, List.getD_eq_getElem?_getD, hi]
theorem mul_le_of {i R C : Nat} (h : i < R) : (i + 1) * C ≤ R * C := Nat.mul_le_mul_right _ h
theorem rowsOf_each {R C : Nat} {D : List Int} (h : D.length = R * C) : ∀ r ∈ rowsOf R C D, r.length = C := by
  intro r hr
  simp only [rowsOf, List.mem_map, List.mem_range] at hr
  obtain ⟨i, hi, rfl⟩ := hr
  exact rowAt_length (by rw [h]; exact mul_le_of hi)
theorem rowsOf_flat {R C : Nat} {D : List Int} (h : D.length = R * C) : (rowsOf R C D).flatten = D := by
  rcases Nat.eq_zero_or_pos C with rfl | hC
  · have h0 : D = [] := List.eq_nil_of_length_eq_zero (by omega)
    subst h0
    apply List.eq_nil_of_length_eq_zero
    rw [flat_length (n := 0) (rowsOf_each h)]; omega
  · have hl := flat_length (rowsOf_each h)
    rw [rowsOf_length] at hl
    apply List.ext_getElem?
    intro t
    rw [flat_getElem? hC (rowsOf_each h)]
    by_cases ht : t < R * C
    · have hd : t / C < R := Nat.div_lt_of_lt_mul (by rwa [Nat.mul_comm])
      have hm : t % C < C := Nat.mod_lt _ hC
      rw [show (rowsOf R C D)[t / C]? = some (rowAt C D (t / C)) by simp [rowsOf, hd]]
      simp only [Option.bind_some, rowAt, List.getElem?_take, if_pos hm, List.getElem?_drop]
      congr 1
      rw [Nat.mul_comm]
      exact Nat.div_add_mod t C
    · have hd : ¬ t / C < R := fun hd => ht (by
        have := Nat.div_add_mod t C
        have hm : t % C < C := Nat.mod_lt _ hC
        have h2 := Nat.mul_le_mul_right C hd
        rw [Nat.succ_mul] at h2
        have h3 : C * (t / C) = t / C * C := Nat.mul_comm _ _
        omega)
      rw [show (rowsOf R C D)[t / C]? = none by simp [rowsOf]; omega]
      simp
      omega
theorem rowsOf_of_flat {C : Nat} {rows : List (List Int)} (h : ∀ r ∈ rows, r.length = C) : rowsOf rows.length C rows.flatten = rows := by
  apply List.ext_getElem (by rw [rowsOf_length])
  intro i h1 h2
  rw [rowsOf_length] at h1
  have hr : (rowsOf rows.length C rows.flatten)[i] = rowAt C rows.flatten i := by simp [rowsOf]
  rw [hr]
  have hl : rows[i].length = C := h _ (List.getElem_mem h2)
  have hfl := flat_length h
  apply List.ext_getElem (by rw [rowAt_length (by rw [hfl]; exact mul_le_of h1), hl])
  intro j h3 h4
  rw [hl] at h4
  have hC : 0 < C := by omega
  have e1 : (rowAt C rows.flatten i)[j]? = rows[i][j]? := by
    simp only [rowAt, List.getElem?_take, if_pos h4, List.getElem?_drop]
    rw [flat_getElem? hC h, show (i * C + j) / C = i by rw [Nat.mul_comm, Nat.mul_add_div hC, Nat.div_eq_of_lt h4]; rfl,
      show (i * C + j) % C = j by rw [Nat.mul_comm, Nat.mul_add_mod, Nat.mod_eq_of_lt h4], List.getElem?_eq_getElem h2]
    rfl
  rw [List.getElem?_eq_getElem h3, List.getElem?_eq_getElem (by omega)] at e1
  exact Option.some.inj e1

/-- row i of a matrix with 1 where a permutation says -/
def unitRow (n : Nat) (x : Int) : List Int := (List.range n).map fun (j : Nat) => if (j : Int) = x then 1 else 0
def permRows (w : List Int) : List (List Int) := w.map (unitRow w.length)

theorem unitRow_length (n : Nat) (x : Int) : (unitRow n x).length = n := by simp [unitRow]
theorem unitRow_getD {n : Nat} {x : Int} {j : Nat} (h : j < n) : (unitRow n x).getD j 0 = if (j : Int) = x then 1 else 0 := by
  simp [unitRow, List.getD_eq_getElem?_getD, h]
theorem permRows_each (w : List Int) : ∀ r ∈ permRows w, r.length = w.length := by
  intro r hr
  simp only [permRows, List.mem_map] at hr
  obtain ⟨x, _, rfl⟩ := hr
  exact unitRow_length _ _
theorem permRows_length (w : List Int) : (permRows w).length = w.length := by simp [permRows]
theorem permRows_flat_length (w : List Int) : (permRows w).flatten.length = w.length * w.length := by
  rw [flat_length (permRows_each w), permRows_length]
theorem permRows_flat_getD {w : List Int} {t : Nat} (h : t < w.length * w.length) : (permRows w).flatten.getD t 0 = if ((t % w.length : Nat) : Int) = w.getD (t / w.length) 0 then 1 else 0 := by
  have hn : 0 < w.length := by
    rcases Nat.eq_zero_or_pos w.length with h0 | h0
    · rw [h0] at h; omega
    · exact h0
  have hd : t / w.length < w.length := Nat.div_lt_of_lt_mul h
  rw [flat_getD hn (permRows_each w)]
  have : (permRows w).getD (t / w.length) [] = unitRow w.length (w.getD (t / w.length) 0) := by
    simp [permRows, List.getD_eq_getElem?_getD, hd]
  rw [this, unitRow_getD (Nat.mod_lt _ hn)]

theorem div_at {n k m : Nat} (h : m < n) : (k * n + m) / n = k ∧ (k * n + m) % n = m := by
  have hn : 0 < n := by omega
  refine ⟨?_, ?_⟩
  · rw [Nat.mul_comm, Nat.mul_add_div hn, Nat.div_eq_of_lt h]; rfl
  · rw [Nat.mul_comm, Nat.mul_add_mod, Nat.mod_eq_of_lt h]
/-- the permutation's matrix: one row more has its 1 -/
theorem pm_step {xs : List Int} {k m t : Nat} (hm : xs.getD k 0 = (m : Int)) (hml : m < xs.length) :
    (if t = k * xs.length + m then (1 : Int) else if t / xs.length < k ∧ ((t % xs.length : Nat) : Int) = xs.getD (t / xs.length) 0 then 1 else 0) =
      if t / xs.length < k + 1 ∧ ((t % xs.length : Nat) : Int) = xs.getD (t / xs.length) 0 then 1 else 0 := by
  obtain ⟨e1, e2⟩ := div_at (k := k) hml
  by_cases e : t = k * xs.length + m
  · subst e
    rw [if_pos rfl, if_pos]
    rw [e1, e2, hm]
    exact ⟨by omega, rfl⟩
  · rw [if_neg e]
    by_cases h1 : t / xs.length < k
    · have h2 : t / xs.length < k + 1 := by omega
      simp only [h1, h2, true_and]
    · by_cases h3 : t / xs.length = k
      · rw [if_neg (fun h => h1 h.1), if_neg]
        rintro ⟨_, h4⟩
        rw [h3, hm] at h4
        have h5 : t % xs.length = m := by omega
        apply e
        have := Nat.div_add_mod t xs.length
        rw [h3, h5, Nat.mul_comm] at this
        exact this.symm
      · rw [if_neg (fun h => h1 h.1), if_neg (fun h => by omega)]

theorem take_flat_succ {rows : List (List Int)} {k : Nat} (h : k < rows.length) : (rows.take (k + 1)).flatten = (rows.take k).flatten ++ rows.getD k [] := by
  rw [List.take_succ_eq_append_getElem h, List.flatten_append]; simp [List.getD_eq_getElem?_getD, h]
theorem take_flat_le (rows : List (List Int)) (k : Nat) : (rows.take k).flatten.length ≤ rows.flatten.length := by
  have : rows.flatten = (rows.take k).flatten ++ (rows.drop k).flatten := by rw [← List.flatten_append, List.take_append_drop]
  rw [this, List.length_append]; omega
theorem take_flat_len {rows : List (List Int)} {k : Nat} (h : k < rows.length) : (rows.take k).flatten.length + (rows.getD k []).length = (rows.take (k + 1)).flatten.length := by
  rw [take_flat_succ h, List.length_append]

theorem permRows_take_succ {xs : List Int} {k : Nat} (h : k < xs.length) : (permRows xs).take (k + 1) = (permRows xs).take k ++ [unitRow xs.length (xs.getD k 0)] := by
  rw [List.take_succ_eq_append_getElem (by rw [permRows_length]; exact h)]
  simp [permRows, List.getD_eq_getElem?_getD, h]

end Go.Proofs.YtnpghgpejnlebaaGreat
