/-
  What slices of ints hold in memory, and what is left of it when the world changes: lemmas over any program, no function of the program in sight.
  From what the form says of a slice of ints that came in to what the walks ask of it.
  What a matrix that came in looks like: three numbers and a slice that reads as a list of integers.
  append on a slice that the call made: laws of the walk, over any program.
  Maps keyed by seven numbers: what a key is.
  What a map keyed by seven numbers adds up to, against a list of keys and numbers. Plain.
-/
import Derived.WalkKit
import Derived.WalkSpells
import Derived.WalkLawsBesides
import Derived.Deep.LoopGhost
import Derived.Deep.OwnRows
import Derived.Deep.QuietTactic
import Derived.BigQuiet
import Derived.Lib.Hide
import Derived.Lib.SmallJoins
import Derived.Test.YtgebjjpcgakjgaaGreatChecked
import Derived.WideKeyArr
import Derived.WideKeyEntry
import Derived.Maps.RangeWalk
import Derived.Maps.OwnSet
import Derived.Maps.OwnOps
namespace Go.Proofs.YtgebjjpcgakjgaaGreat
set_option linter.all false
open Go.RowKit

/-! ### frames -/

/-- what changed from w to w' lies in the blocks lo .. hi-1, or is new -/
structure Frm (lo hi : Nat) (w w' : World) : Prop where
  os : w'.os = w.os
  tape : w'.tape = w.tape
  output : w'.output = w.output
  size : w.heap.size ≤ w'.heap.size
  block : ∀ k, k < w.heap.size → (k < lo ∨ hi ≤ k) → w'.heap[k]? = w.heap[k]?

theorem Frm.refl (lo hi : Nat) (w : World) : Frm lo hi w w := ⟨rfl, rfl, rfl, Nat.le_refl _, fun _ _ _ => rfl⟩
theorem Frm.trans {lo hi : Nat} {a b c : World} (h : Frm lo hi a b) (k : Frm lo hi b c) : Frm lo hi a c :=
  ⟨k.os.trans h.os, k.tape.trans h.tape, k.output.trans h.output, Nat.le_trans h.size k.size,
    fun i hi' ho => (k.block i (Nat.lt_of_lt_of_le hi' h.size) ho).trans (h.block i hi' ho)⟩
theorem Frm.mono {lo hi lo' hi' : Nat} {a b : World} (h : Frm lo hi a b) (h1 : lo' ≤ lo) (h2 : hi ≤ hi') : Frm lo' hi' a b :=
  ⟨h.os, h.tape, h.output, h.size, fun i hi' ho => h.block i hi' (by omega)⟩
theorem Frm.of_below {w w' : World} (h : Below w.heap.size w w') (lo hi : Nat) : Frm lo hi w w' :=
  ⟨h.os, h.tape, h.output, h.size, fun i hi' _ => h.block i hi'⟩
theorem Frm.drewN {lo hi : Nat} {a w : World} (h : Frm lo hi a w) (n : Nat) : Frm lo hi a (w.drewN n) := ⟨h.os, h.tape, h.output, h.size, h.block⟩
/-- what changed lies from lo on -/
theorem Frm.below {lo hi : Nat} {a b : World} (h : Frm lo hi a b) {B : Nat} (hB : B ≤ lo) (hs : B ≤ a.heap.size) : Below B a b :=
  ⟨h.os, h.tape, h.output, h.size, fun k hk => h.block k (by omega) (.inl (by omega))⟩
theorem Below.drewN {B : Nat} {a w : World} (h : Below B a w) (n : Nat) : Below B a (w.drewN n) := ⟨h.os, h.tape, h.output, h.size, h.block⟩
theorem Below.of_drewN {B : Nat} (w : World) (n : Nat) : Below B w (w.drewN n) := ⟨rfl, rfl, rfl, Nat.le_refl _, fun _ _ => rfl⟩

theorem below_trans {a b c : World} (h : Below a.heap.size a b) (k : Below b.heap.size b c) : Below a.heap.size a c := h.trans (k.mono h.size)

/-! ### worlds that differ by draws alone -/

def Qt (w w' : World) : Prop := ∃ n, w' = w.drewN n
theorem Qt.refl (w : World) : Qt w w := ⟨0, rfl⟩
theorem Qt.trans {a b c : World} (h : Qt a b) (k : Qt b c) : Qt a c := by
  obtain ⟨n, rfl⟩ := h
  obtain ⟨m, rfl⟩ := k
  exact ⟨n + m, World.drewN_drewN _ _ _⟩
theorem Qt.drewN {a b : World} (h : Qt a b) (n : Nat) : Qt a (b.drewN n) := h.trans ⟨n, rfl⟩
theorem Qt.cell {w w' : World} (h : Qt w w') {a : Addr} {x : Value} (hx : w.cell? a = some x) : w'.cell? a = some x := by
  obtain ⟨n, rfl⟩ := h
  exact hx
theorem Qt.below {w w' : World} (h : Qt w w') (B : Nat) : Below B w w' := by
  obtain ⟨n, rfl⟩ := h
  exact Below.of_drewN w n
theorem Qt.frm {w w' : World} (h : Qt w w') (lo hi : Nat) : Frm lo hi w w' := Frm.of_below (h.below _) lo hi
theorem Qt.size {w w' : World} (h : Qt w w') : w'.heap.size = w.heap.size := by
  obtain ⟨n, rfl⟩ := h
  rfl
theorem Qt.heap {w w' : World} (h : Qt w w') : w'.heap = w.heap := by
  obtain ⟨n, rfl⟩ := h
  rfl
/-- a contract that draws, met inside a region that draws -/
theorem quiet_q {P : Program} {f : FuncId} {args : Array Value} {w : World} {n : Nat} {v : Value}
    (h : Calls P f args (w.drewN n) fun e w' => e = .returned v ∧ Qt (w.drewN n) w') : Calls P f args (w.drewN n) fun e w'' => e = .returned v ∧ ∃ m, w'' = w.drewN m :=
  h.mono fun _ _ ⟨he, m, hm⟩ => ⟨he, n + m, by rw [hm, World.drewN_drewN]⟩

/-! ### slices that can be read -/

/-- a slice that can be read: n elements of one cell -/
def Rd (w : World) (v : Value) (n : Nat) (f : Nat → Value) : Prop :=
  ∃ p cap, v = .slice p n cap ∧ (n ≤ cap ∧ cap ≤ maxLen) ∧ (0 < n → ∃ b off, p = some ⟨b, off, none⟩ ∧ ∀ j, j < n → w.cell? ⟨b, off + j, none⟩ = some (f j))

/-- the numbers of a list, as values -/
def iv (xs : List Int) (j : Nat) : Value := .int .i64 (xs.getD j 0)
def ivs (xs : List Int) : List Value := xs.map (Value.int .i64)

/-- a slice of ints that reads as a list -/
def Ints (w : World) (v : Value) (xs : List Int) : Prop := Rd w v xs.length (iv xs)

theorem Rd.of_cells {w w' : World} {v : Value} {n : Nat} {f : Nat → Value} (h : Rd w v n f) (hc : ∀ a x, w.cell? a = some x → w'.cell? a = some x) : Rd w' v n f := by
  obtain ⟨p, cap, rfl, hm, h⟩ := h
  refine ⟨p, cap, rfl, hm, fun h0 => ?_⟩
  obtain ⟨b, off, hp, hx⟩ := h h0
  exact ⟨b, off, hp, fun j hj => hc _ _ (hx j hj)⟩
theorem Rd.below {w w' : World} {v : Value} {n : Nat} {f : Nat → Value} (h : Rd w v n f) (hb : Below w.heap.size w w') : Rd w' v n f :=
  h.of_cells fun a x hx => by rw [hb.cell (World.block_lt_of_cell? w a hx)]; exact hx
theorem Rd.drewN {w : World} {v : Value} {n : Nat} {f : Nat → Value} (h : Rd w v n f) (q : Nat) : Rd (w.drewN q) v n f := h.of_cells fun _ _ hx => hx
theorem Rd.qt {w w' : World} {v : Value} {n : Nat} {f : Nat → Value} (h : Rd w v n f) (q : Qt w w') : Rd w' v n f := h.of_cells fun _ _ hx => q.cell hx
theorem Rd.congr {w : World} {v : Value} {n : Nat} {f g : Nat → Value} (h : Rd w v n f) (e : ∀ j, j < n → f j = g j) : Rd w v n g := by
  obtain ⟨p, cap, rfl, hm, h⟩ := h
  refine ⟨p, cap, rfl, hm, fun h0 => ?_⟩
  obtain ⟨b, off, hp, hx⟩ := h h0
  exact ⟨b, off, hp, fun j hj => by rw [← e j hj]; exact hx j hj⟩

theorem Ints.below {w w' : World} {v : Value} {xs : List Int} (h : Ints w v xs) (hb : Below w.heap.size w w') : Ints w' v xs := Rd.below h hb
theorem Ints.qt {w w' : World} {v : Value} {xs : List Int} (h : Ints w v xs) (q : Qt w w') : Ints w' v xs := Rd.qt h q
theorem Ints.drewN {w : World} {v : Value} {xs : List Int} (h : Ints w v xs) (q : Nat) : Ints (w.drewN q) v xs := Rd.drewN h q

/-! ### slices that a call made -/

/-- a slice of n elements of so many cells each, at the head of a block of its own between lo and hi; T: the element's type -/
def Own (w : World) (lo hi : Nat) (T : TypeId) (size : Nat) (v : Value) (n : Nat) (xs : List Value) : Prop :=
  w.ownsRow lo T size v n xs ∧ ∀ k, v.ownBlock = some k → k < hi

theorem ownsRow_of_block {w w' : World} {lo : Nat} {T : TypeId} {size : Nat} {v : Value} {n : Nat} {xs : List Value} (h : w.ownsRow lo T size v n xs)
    (hb : ∀ k, v.ownBlock = some k → w'.heap[k]? = w.heap[k]?) : w'.ownsRow lo T size v n xs := by
  refine ⟨h.1, ?_⟩
  rcases h.2 with hn | ⟨g, cap, cur, rfl, hb', hg, rest⟩
  · exact .inl hn
  · exact .inr ⟨g, cap, cur, rfl, hb', by rw [hb g rfl]; exact hg, rest⟩
theorem ownsRow_lo {w : World} {lo lo' : Nat} {T : TypeId} {size : Nat} {v : Value} {n : Nat} {xs : List Value} (h : w.ownsRow lo T size v n xs) (hl : lo' ≤ lo) : w.ownsRow lo' T size v n xs := by
  refine ⟨h.1, ?_⟩
  rcases h.2 with hn | ⟨g, cap, cur, rfl, hb', hg, rest⟩
  · exact .inl hn
  · exact .inr ⟨g, cap, cur, rfl, by omega, hg, rest⟩

namespace Own
variable {w w' : World} {lo hi : Nat} {T : TypeId} {size : Nat} {v : Value} {n : Nat} {xs : List Value}

theorem of_row (h : w.ownsRow lo T size v n xs) : Own w lo w.heap.size T size v n xs := ⟨h, fun k hk => (h.lt k hk).2⟩
theorem block (h : Own w lo hi T size v n xs) {k : Nat} (hk : v.ownBlock = some k) : lo ≤ k ∧ k < hi ∧ k < w.heap.size := ⟨(h.1.lt k hk).1, h.2 k hk, (h.1.lt k hk).2⟩
theorem mono {lo' hi' : Nat} (h : Own w lo hi T size v n xs) (h1 : lo' ≤ lo) (h2 : hi ≤ hi') : Own w lo' hi' T size v n xs :=
  ⟨ownsRow_lo h.1 h1, fun k hk => Nat.lt_of_lt_of_le (h.2 k hk) h2⟩
/-- the blocks lo .. hi-1 have not changed -/
theorem keep (h : Own w lo hi T size v n xs) (hb : ∀ k, lo ≤ k → k < hi → k < w.heap.size → w'.heap[k]? = w.heap[k]?) : Own w' lo hi T size v n xs :=
  ⟨ownsRow_of_block h.1 fun k hk => hb k (h.block hk).1 (h.block hk).2.1 (h.block hk).2.2, h.2⟩
theorem below (h : Own w lo hi T size v n xs) (hb : Below w.heap.size w w') : Own w' lo hi T size v n xs := h.keep fun k _ _ h3 => hb.block k h3
theorem frm {lo' hi' : Nat} (h : Own w lo hi T size v n xs) (hb : Frm lo' hi' w w') (ho : hi ≤ lo' ∨ hi' ≤ lo) : Own w' lo hi T size v n xs :=
  h.keep fun k h1 h2 h3 => hb.block k h3 (by omega)
theorem drewN (h : Own w lo hi T size v n xs) (q : Nat) : Own (w.drewN q) lo hi T size v n xs := h.keep fun _ _ _ _ => rfl
theorem len (h : Own w lo hi T size v n xs) : xs.length = n * size := h.1.1
end Own

theorem length_ivs (xs : List Int) : (ivs xs).length = xs.length := by simp [ivs]
theorem getElem?_ivs (xs : List Int) (j : Nat) (h : j < xs.length) : (ivs xs)[j]? = some (iv xs j) := by simp [ivs, iv, h]

/-- a slice of ints that a call made -/
def OwnI (T : TypeId) (w : World) (lo hi : Nat) (v : Value) (xs : List Int) : Prop := Own w lo hi T 1 v xs.length (ivs xs)


/-- what is owned, cells of one value each, can be read -/
theorem ownsRow_rd {w : World} {lo : Nat} {T : TypeId} {v : Value} {n : Nat} {xs : List Value} (h : w.ownsRow lo T 1 v n xs) {f : Nat → Value} (hf : ∀ j, j < n → xs[j]? = some (f j)) : Rd w v n f := by
  rcases h.2 with ⟨rfl, rfl⟩ | ⟨g, cap, cur, rfl, _, _, hm, hm2, _⟩
  · exact ⟨none, 0, rfl, ⟨Nat.le_refl _, Nat.zero_le _⟩, fun h0 => absurd h0 (by omega)⟩
  · refine ⟨_, cap, rfl, ⟨hm, hm2⟩, fun _ => ⟨g, 0, rfl, fun j hj => ?_⟩⟩
    have := h.cells (g := g) rfl j _ (hf j hj)
    have hadd : (⟨g, 0, none⟩ : Addr).add j = ⟨g, 0 + j, none⟩ := by unfold Addr.add; split <;> simp_all
    rw [hadd] at this
    exact this
theorem OwnI.ints {T : TypeId} {w : World} {lo hi : Nat} {v : Value} {xs : List Int} (h : OwnI T w lo hi v xs) : Ints w v xs :=
  ownsRow_rd h.1 fun j hj => getElem?_ivs xs j hj
theorem OwnI.below {T : TypeId} {w w' : World} {lo hi : Nat} {v : Value} {xs : List Int} (h : OwnI T w lo hi v xs) (hb : Below w.heap.size w w') : OwnI T w' lo hi v xs := Own.below h hb
theorem OwnI.frm {T : TypeId} {w w' : World} {lo hi lo' hi' : Nat} {v : Value} {xs : List Int} (h : OwnI T w lo hi v xs) (hb : Frm lo' hi' w w') (ho : hi ≤ lo' ∨ hi' ≤ lo) : OwnI T w' lo hi v xs := Own.frm h hb ho

/-- a whole block of one-cell elements, as an owned slice -/
theorem rowIs_owns {w : World} {b : Nat} {T : TypeId} {n : Nat} {f : Nat → Value} (h : w.rowIs b T n f) (hm : n ≤ maxLen) {xs : List Value} (hl : xs.length = n) (hf : ∀ j, j < n → xs[j]? = some (f j)) :
    w.ownsRow b T 1 (.slice (some ⟨b, 0, none⟩) n n) n xs := by
  obtain ⟨c, hb, hn, hc⟩ := h
  refine ⟨by omega, .inr ⟨b, n, c, rfl, Nat.le_refl _, hb, Nat.le_refl _, hm, by omega, ?_⟩⟩
  rw [Nat.mul_one, List.take_of_length_le (by simp [hn])]
  apply List.ext_getElem?
  intro i
  by_cases hi : i < n
  · rw [hf i hi, Array.getElem?_toList, hc i hi]
  · rw [List.getElem?_eq_none (by simp; omega), List.getElem?_eq_none (by omega)]
theorem rowIs_ints {w : World} {b : Nat} {T : TypeId} {xs : List Int} (h : w.rowIs b T xs.length (iv xs)) (hm : xs.length ≤ maxLen) :
    OwnI T w b w.heap.size (.slice (some ⟨b, 0, none⟩) xs.length xs.length) xs :=
  Own.of_row (rowIs_owns h hm (length_ivs xs) fun j hj => getElem?_ivs xs j hj)
/-- an owned slice, its block laid open -/
theorem Own.row {w : World} {lo hi : Nat} {T : TypeId} {v : Value} {n : Nat} {xs : List Value} (h : Own w lo hi T 1 v n xs) :
    (v = .slice none 0 0 ∧ n = 0 ∧ xs = []) ∨ ∃ g cap F, v = .slice (some ⟨g, 0, none⟩) n cap ∧ lo ≤ g ∧ g < hi ∧ n ≤ cap ∧ cap ≤ maxLen ∧ w.rowIs g T cap F ∧ ∀ j, j < n → xs[j]? = some (F j) := by
  obtain ⟨⟨hl, hr⟩, hh⟩ := h
  rcases hr with ⟨rfl, rfl⟩ | ⟨g, cap, cur, rfl, hb, hg, hn, hm, hs, ht⟩
  · exact .inl ⟨rfl, rfl, List.eq_nil_of_length_eq_zero (by omega)⟩
  · refine .inr ⟨g, cap, fun j => cur.getD j undef, rfl, hb, hh g rfl, hn, hm, ⟨cur, hg, by omega, fun i hi => ?_⟩, fun j hj => ?_⟩
    · simp [show i < cur.size by omega]
    · rw [← ht, List.getElem?_take, if_pos (by omega), Array.getElem?_toList]
      simp [show j < cur.size by omega]
theorem Own.of_rowIs {w : World} {lo hi g n cap : Nat} {T : TypeId} {F : Nat → Value} (h : w.rowIs g T cap F) (h1 : lo ≤ g) (h2 : g < hi) (h3 : n ≤ cap) (h4 : cap ≤ maxLen) {xs : List Value} (hl : xs.length = n) (hf : ∀ j, j < n → xs[j]? = some (F j)) :
    Own w lo hi T 1 (.slice (some ⟨g, 0, none⟩) n cap) n xs := by
  obtain ⟨c, hb, hn, hc⟩ := h
  refine ⟨⟨by omega, .inr ⟨g, cap, c, rfl, h1, hb, h3, h4, by omega, ?_⟩⟩, fun k hk => by simp [Value.ownBlock] at hk; omega⟩
  apply List.ext_getElem?
  intro i
  rw [Nat.mul_one, List.getElem?_take]
  by_cases hi : i < n
  · rw [if_pos hi, hf i hi, Array.getElem?_toList, hc i (by omega)]
  · rw [if_neg hi, List.getElem?_eq_none (by omega)]

/-! ### owned slices of one-cell elements, the content said by the index -/

def OwnF (w : World) (lo hi : Nat) (T : TypeId) (v : Value) (n : Nat) (f : Nat → Value) : Prop :=
  ∃ xs, Own w lo hi T 1 v n xs ∧ ∀ j, j < n → xs[j]? = some (f j)

namespace OwnF
variable {w w' : World} {lo hi : Nat} {T : TypeId} {v : Value} {n : Nat} {f : Nat → Value}

theorem shape (h : OwnF w lo hi T v n f) : ∃ p cap, v = .slice p n cap ∧ n ≤ cap ∧ cap ≤ maxLen ∧ (0 < n → ∃ g, p = some ⟨g, 0, none⟩ ∧ lo ≤ g ∧ g < hi ∧ g < w.heap.size) := by
  obtain ⟨xs, h, _⟩ := h
  rcases Own.row h with ⟨rfl, rfl, _⟩ | ⟨g, cap, F, rfl, h1, h2, h3, h4, hr, _⟩
  · exact ⟨none, 0, rfl, Nat.le_refl _, Nat.zero_le _, fun h => absurd h (Nat.lt_irrefl _)⟩
  · exact ⟨_, cap, rfl, h3, h4, fun _ => ⟨g, rfl, h1, h2, hr.lt⟩⟩
theorem at_ {p : Option Addr} {cap : Nat} (h : OwnF w lo hi T (.slice p n cap) n f) (h0 : 0 < n) : ∃ g, p = some ⟨g, 0, none⟩ ∧ lo ≤ g ∧ g < hi ∧ g < w.heap.size := by
  obtain ⟨p', cap', e, _, _, h⟩ := h.shape
  injection e with e1 e2 e3
  subst e1
  exact h h0
theorem le {p : Option Addr} {m cap : Nat} (h : OwnF w lo hi T (.slice p m cap) n f) : m = n ∧ n ≤ cap ∧ cap ≤ maxLen := by
  obtain ⟨p', cap', e, h1, h2, _⟩ := h.shape
  injection e with e1 e2 e3
  omega
theorem opened {g n' cap : Nat} (h : OwnF w lo hi T (.slice (some ⟨g, 0, none⟩) n' cap) n f) : ∃ F, w.rowIs g T cap F ∧ (∀ j, j < n → F j = f j) ∧ lo ≤ g ∧ g < hi ∧ n ≤ cap ∧ cap ≤ maxLen ∧ n' = n := by
  obtain ⟨xs, h, hf⟩ := h
  rcases Own.row h with ⟨e, _, _⟩ | ⟨g', cap', F, e, h1, h2, h3, h4, hr, hF⟩
  · injection e with e1; cases e1
  · injection e with e1 e2 e3
    injection e1 with e1
    injection e1 with e1
    subst e1 e2 e3
    exact ⟨F, hr, fun j hj => Option.some.inj ((hF j hj).symm.trans (hf j hj)), h1, h2, h3, h4, rfl⟩
theorem mk' {g cap : Nat} {F : Nat → Value} (h : w.rowIs g T cap F) (h1 : lo ≤ g) (h2 : g < hi) (h3 : n ≤ cap) (h4 : cap ≤ maxLen) (hf : ∀ j, j < n → F j = f j) : OwnF w lo hi T (.slice (some ⟨g, 0, none⟩) n cap) n f :=
  ⟨(List.range n).map f, Own.of_rowIs h h1 h2 h3 h4 (by simp) (fun j hj => by simp [hj, hf j hj]), fun j hj => by simp [hj]⟩
theorem cell {g n' cap : Nat} (h : OwnF w lo hi T (.slice (some ⟨g, 0, none⟩) n' cap) n f) {j : Nat} (hj : j < n) : w.cell? ⟨g, j, none⟩ = some (f j) := by
  obtain ⟨F, hr, hF, _, _, h3, _⟩ := h.opened
  rw [hr.cell (by omega), hF j hj]
theorem frozen {g n' cap : Nat} (h : OwnF w lo hi T (.slice (some ⟨g, 0, none⟩) n' cap) n f) (j : Nat) : w.frozen? ⟨g, j, none⟩ = false := by
  obtain ⟨F, hr, _⟩ := h.opened
  exact hr.frozen j
theorem set {g n' cap : Nat} (h : OwnF w lo hi T (.slice (some ⟨g, 0, none⟩) n' cap) n f) (k : Nat) (u : Value) : OwnF (w.setCell ⟨g, k, none⟩ u) lo hi T (.slice (some ⟨g, 0, none⟩) n' cap) n (fun j => if j = k then u else f j) := by
  obtain ⟨F, hr, hF, h1, h2, h3, h4, rfl⟩ := h.opened
  exact mk' (hr.set k u) h1 h2 h3 h4 fun j hj => by by_cases e : j = k <;> simp [e, hF j hj]
theorem congr {f' : Nat → Value} (h : OwnF w lo hi T v n f) (e : ∀ j, j < n → f j = f' j) : OwnF w lo hi T v n f' := by
  obtain ⟨xs, h, hf⟩ := h
  exact ⟨xs, h, fun j hj => by rw [hf j hj, e j hj]⟩
theorem keep (h : OwnF w lo hi T v n f) (hb : ∀ k, lo ≤ k → k < hi → k < w.heap.size → w'.heap[k]? = w.heap[k]?) : OwnF w' lo hi T v n f := by
  obtain ⟨xs, h, hf⟩ := h
  exact ⟨xs, h.keep hb, hf⟩
theorem below (h : OwnF w lo hi T v n f) (hb : Below w.heap.size w w') : OwnF w' lo hi T v n f := h.keep fun k _ _ h3 => hb.block k h3
theorem frm {lo' hi' : Nat} (h : OwnF w lo hi T v n f) (hb : Frm lo' hi' w w') (ho : hi ≤ lo' ∨ hi' ≤ lo) : OwnF w' lo hi T v n f := h.keep fun k h1 h2 h3 => hb.block k h3 (by omega)
theorem mono {lo' hi' : Nat} (h : OwnF w lo hi T v n f) (h1 : lo' ≤ lo) (h2 : hi ≤ hi') : OwnF w lo' hi' T v n f := by
  obtain ⟨xs, h, hf⟩ := h
  exact ⟨xs, h.mono h1 h2, hf⟩
theorem rd (h : OwnF w lo hi T v n f) : Rd w v n f := by
  obtain ⟨xs, h, hf⟩ := h
  exact ownsRow_rd h.1 hf
theorem ints {xs : List Int} (h : OwnF w lo hi T v xs.length (iv xs)) : OwnI T w lo hi v xs := by
  obtain ⟨ys, h, hf⟩ := h
  obtain rfl : ys = ivs xs := by
    apply List.ext_getElem?
    intro j
    by_cases hj : j < xs.length
    · rw [hf j hj, getElem?_ivs xs j hj]
    · rw [List.getElem?_eq_none (by have := h.len; omega), List.getElem?_eq_none (by rw [length_ivs]; omega)]
  exact h
end OwnF
theorem OwnI.fn {T : TypeId} {w : World} {lo hi : Nat} {v : Value} {xs : List Int} (h : OwnI T w lo hi v xs) : OwnF w lo hi T v xs.length (iv xs) := ⟨_, h, fun j hj => getElem?_ivs xs j hj⟩
/-- a store into an owned block -/
theorem Frm.setCell {lo hi : Nat} {a w : World} (h : Frm lo hi a w) {p : Addr} (h1 : lo ≤ p.block) (h2 : p.block < hi) (u : Value) : Frm lo hi a (w.setCell p u) :=
  h.trans ⟨rfl, rfl, rfl, by simp [World.setCell], fun k hk ho => Below.heap_setCell _ _ _ _ (by omega)⟩

/-! ### blocks of a struct -/

theorem heap_alloc_top (w : World) (o : Obj) : (w.alloc o).heap[w.heap.size]? = some o := heap_alloc_new w o
theorem heap_alloc_at (w : World) (o : Obj) {k : Nat} (h : k = w.heap.size) : (w.alloc o).heap[k]? = some o := by rw [h]; exact heap_alloc_top w o
theorem below_alloc (w : World) (o : Obj) : Below w.heap.size w (w.alloc o) := (Below.refl _ _).alloc (Nat.le_refl _) _
theorem below_alloc2 (w : World) (o p : Obj) : Below w.heap.size w ((w.alloc o).alloc p) := (below_alloc w o).alloc (by simp) _
theorem below_alloc3 (w : World) (o p q : Obj) : Below w.heap.size w (((w.alloc o).alloc p).alloc q) := (below_alloc2 w o p).alloc (by simp; omega) _
theorem heap_alloc_low (w : World) (o : Obj) {k : Nat} (h : k < w.heap.size) : (w.alloc o).heap[k]? = w.heap[k]? := heap_alloc_old w o h
theorem size_alloc (w : World) (o : Obj) : (w.alloc o).heap.size = w.heap.size + 1 := by simp
theorem cell_of_blk {w : World} {b : Nat} {c : Array Value} {T : TypeId} {q : Nat × Nat} (h : w.heap[b]? = some (.cells c T q)) {j : Nat} {x : Value} (hj : c[j]? = some x) : w.cell? ⟨b, j, none⟩ = some x := by
  simp [World.cell?, h, hj]
theorem free_of_blk {w : World} {b : Nat} {c : Array Value} {T : TypeId} (h : w.heap[b]? = some (.cells c T (0, 0))) (j : Nat) : w.frozen? ⟨b, j, none⟩ = false := by
  simp [World.frozen?, h]
theorem heap_setCell_at {w : World} {b : Nat} {c : Array Value} {T : TypeId} {q : Nat × Nat} (h : w.heap[b]? = some (.cells c T q)) (j : Nat) (u : Value) : (w.setCell ⟨b, j, none⟩ u).heap[b]? = some (.cells (c.setIfInBounds j u) T q) := by
  simp [World.setCell, Array.getElem?_modify, h]

theorem blk4 {w : World} {b : Nat} {x0 x1 x2 x3 : Value} {T : TypeId} (h : w.heap[b]? = some (.cells #[x0, x1, x2, x3] T (0, 0))) :
    w.cell? ⟨b, 0, none⟩ = some x0 ∧ w.cell? ⟨b, 1, none⟩ = some x1 ∧ w.cell? ⟨b, 2, none⟩ = some x2 ∧ w.cell? ⟨b, 3, none⟩ = some x3 ∧ (∀ j, w.frozen? ⟨b, j, none⟩ = false) ∧ b < w.heap.size :=
  ⟨cell_of_blk h rfl, cell_of_blk h rfl, cell_of_blk h rfl, cell_of_blk h rfl, free_of_blk h, (Array.getElem?_eq_some_iff.1 h).1⟩
theorem OwnI.shape {T : TypeId} {w : World} {lo hi : Nat} {v : Value} {xs : List Int} (h : OwnI T w lo hi v xs) : ∃ p cap, v = .slice p xs.length cap ∧ xs.length ≤ cap ∧ cap ≤ maxLen := by
  obtain ⟨p, cap, e, h1, h2, _⟩ := h.fn.shape
  exact ⟨p, cap, e, h1, h2⟩

theorem Own.setCell {w : World} {lo hi : Nat} {T : TypeId} {size : Nat} {v : Value} {n : Nat} {xs : List Value} (h : Own w lo hi T size v n xs) {a : Addr} (ho : a.block < lo ∨ hi ≤ a.block) (u : Value) : Own (w.setCell a u) lo hi T size v n xs :=
  h.keep fun k h1 h2 _ => Below.heap_setCell _ _ _ _ (by omega)
theorem OwnI.setCell {T : TypeId} {w : World} {lo hi : Nat} {v : Value} {xs : List Int} (h : OwnI T w lo hi v xs) {a : Addr} (ho : a.block < lo ∨ hi ≤ a.block) (u : Value) : OwnI T (w.setCell a u) lo hi v xs := Own.setCell h ho u
theorem OwnI.mono {T : TypeId} {w : World} {lo hi lo' hi' : Nat} {v : Value} {xs : List Int} (h : OwnI T w lo hi v xs) (h1 : lo' ≤ lo) (h2 : hi ≤ hi') : OwnI T w lo' hi' v xs := Own.mono h h1 h2
theorem size_setCell (w : World) (a : Addr) (u : Value) : (w.setCell a u).heap.size = w.heap.size := by simp [World.setCell]

theorem OwnF.setCell {w : World} {lo hi : Nat} {T : TypeId} {v : Value} {n : Nat} {f : Nat → Value} (h : OwnF w lo hi T v n f) {a : Addr} (ho : a.block < lo ∨ hi ≤ a.block) (u : Value) : OwnF (w.setCell a u) lo hi T v n f :=
  h.keep fun k h1 h2 _ => Below.heap_setCell _ _ _ _ (by omega)
/-- the four cells of a struct are written -/
theorem below_set4 {B : Nat} {a w : World} (h : Below B a w) {b : Nat} (hb : B ≤ b) (x0 x1 x2 x3 : Value) :
    Below B a ((((w.setCell ⟨b, 0, none⟩ x0).setCell ⟨b, 1, none⟩ x1).setCell ⟨b, 2, none⟩ x2).setCell ⟨b, 3, none⟩ x3) :=
  (((h.setCell hb _).setCell hb _).setCell hb _).setCell hb _
theorem own_set4 {T : TypeId} {w : World} {lo hi : Nat} {v : Value} {xs : List Int} (h : OwnI T w lo hi v xs) {b : Nat} (hb : b < lo ∨ hi ≤ b) (x0 x1 x2 x3 : Value) :
    OwnI T ((((w.setCell ⟨b, 0, none⟩ x0).setCell ⟨b, 1, none⟩ x1).setCell ⟨b, 2, none⟩ x2).setCell ⟨b, 3, none⟩ x3) lo hi v xs :=
  (((h.setCell hb _).setCell hb _).setCell hb _).setCell hb _

/-- a block that was there is there later -/
theorem blk_later {w w' : World} {b : Nat} {o : Obj} (h : w.heap[b]? = some o) (hb : Below w.heap.size w w') : w'.heap[b]? = some o := by
  rw [hb.block b (Array.getElem?_eq_some_iff.1 h).1]; exact h
theorem blk_lt {w : World} {b : Nat} {o : Obj} (h : w.heap[b]? = some o) : b < w.heap.size := (Array.getElem?_eq_some_iff.1 h).1

/-- a part of a slice -/
theorem Rd.part {w : World} {b off n cap : Nat} {f : Nat → Value} (h : Rd w (.slice (some ⟨b, off, none⟩) n cap) n f) (lo m c : Nat) (hm : lo + m ≤ n) (hc : m ≤ c) (hc2 : c ≤ maxLen) :
    Rd w (.slice (some ⟨b, off + lo, none⟩) m c) m (fun j => f (lo + j)) := by
  obtain ⟨p', cap', e, hh, h⟩ := h
  injection e with e1 e2 e3
  subst e1 e3
  refine ⟨_, c, rfl, ⟨hc, hc2⟩, fun h0 => ?_⟩
  obtain ⟨b', off', e1, hx⟩ := h (by omega)
  injection e1 with e1
  injection e1 with e1 e2
  subst e1 e2
  exact ⟨b, off + lo, rfl, fun j hj => by rw [Nat.add_assoc]; exact hx _ (by omega)⟩

theorem getD_lt {xs : List Int} {k : Nat} (h : k < xs.length) : xs.getD k 0 = xs[k] := by simp [List.getD_eq_getElem?_getD, h]
theorem getD_eq_list {xs ys : List Int} (hl : xs.length = ys.length) (h : ∀ j, j < xs.length → xs.getD j 0 = ys.getD j 0) : xs = ys := by
  apply List.ext_getElem hl
  intro i h1 h2
  have := h i h1
  simpa [List.getD_eq_getElem?_getD, h1, h2] using this

/-- a contract that leaves the world as it is, met inside a region that draws -/
theorem quiet_same {P : Program} {f : FuncId} {args : Array Value} {w : World} {n : Nat} {v : Value}
    (h : Calls P f args (w.drewN n) fun e w' => e = .returned v ∧ w.drewN n = w') : Calls P f args (w.drewN n) fun e w'' => e = .returned v ∧ ∃ m, w'' = w.drewN m :=
  h.mono fun _ _ ⟨he, hm⟩ => ⟨he, n, hm.symm⟩

/-! ### numbers -/

theorem w64 {n : Int} (h0 : -1000000000000000000 ≤ n) (h1 : n ≤ 1000000000000000000) : wrap64 n = n := IntWalk.wrap64_in n (by omega)
theorem k64 {n : Int} (h0 : -1000000000000000000 ≤ n) (h1 : n ≤ 1000000000000000000) : IntKind.i64.wrap n = n := IntWalk.i64_in n (by omega)
/-- a product of two counts that is small, under a name -/
theorem mul_named (a b : Nat) (h : a * b ≤ 1000000000000000000) : ∃ N, N = a * b ∧ wrap64 ((a : Int) * (b : Int)) = (N : Int) ∧ IntKind.i64.wrap ((a : Int) * (b : Int)) = (N : Int) := by
  have e : ((a * b : Nat) : Int) = (a : Int) * (b : Int) := Int.natCast_mul a b
  refine ⟨a * b, rfl, ?_, ?_⟩
  · rw [← e]; exact w64 (by omega) (by omega)
  · rw [← e]; exact k64 (by omega) (by omega)

/-- the ends of row i of rows of so many numbers -/
theorem row_named (i c : Nat) (h : i * c + c ≤ 1000000000000000000) : ∃ K, K = i * c ∧ Hid (wrap64 ((i : Int) * (c : Int)) = (K : Int) ∧ wrap64 (((i : Int) + 1) * (c : Int)) = (K : Int) + (c : Int)) ∧
    Hid (IntKind.i64.wrap ((i : Int) * (c : Int)) = (K : Int) ∧ IntKind.i64.wrap (((i : Int) + 1) * (c : Int)) = (K : Int) + (c : Int)) := by
  obtain ⟨K, hK, h1, h2⟩ := mul_named i c (by omega)
  have e : ((i : Int) + 1) * (c : Int) = (K : Int) + (c : Int) := by rw [Int.add_mul, hK, Int.natCast_mul, Int.one_mul]
  refine ⟨K, hK, ⟨h1, ?_⟩, ⟨h2, ?_⟩⟩
  · rw [e]; exact w64 (by omega) (by omega)
  · rw [e]; exact k64 (by omega) (by omega)

theorem ret_bool {a b : Bool} (h : a = b) : Ending.returned (.bool a) = .returned (.bool b) := by rw [h]
theorem ret_int {k : IntKind} {a b : Int} (h : a = b) : Ending.returned (.int k a) = .returned (.int k b) := by rw [h]

/-- n numbers in a row, from m on -/
def runs (m : Int) (n : Nat) : List Int := (List.range n).map fun (i : Nat) => m + (i : Int)
theorem length_runs (m : Int) (n : Nat) : (runs m n).length = n := by simp [runs]
theorem getD_runs (m : Int) (n j : Nat) (h : j < n) : (runs m n).getD j 0 = m + j := by simp [runs, List.getD_eq_getElem?_getD, h]
theorem iv_runs (m : Int) (n j : Nat) (h : j < n) : iv (runs m n) j = .int .i64 (m + j) := by simp only [iv, getD_runs m n j h]
theorem runs_zero (m : Int) : runs m 0 = [] := rfl

end Go.Proofs.YtgebjjpcgakjgaaGreat

namespace Go.Proofs.YtgebjjpcgakjgaaGreat
set_option linter.all false
open Go.RowKit

theorem row_ints {w : World} {a : Option Addr} {len cap : Nat} {zs : List Int}
    (h : (a = none ∧ len = 0 ∧ cap = 0 ∧ zs = []) ∨ ∃ x, a = some x ∧ len ≤ cap ∧ cap ≤ maxLen ∧ zs.length = cap ∧ (∀ i, i < zs.length → w.cell? (x.add i) = some (.int .i64 (zs.getD i 0))) ∧ ∀ n ∈ zs, (Lit.int .i64 n).wf = true) :
    Ints w (.slice a len cap) (zs.take len) := by
  rcases h with ⟨rfl, rfl, rfl, rfl⟩ | ⟨x, rfl, hl, hm, hz, hc, _⟩
  · exact ⟨none, 0, rfl, ⟨Nat.le_refl _, Nat.zero_le _⟩, fun h => absurd h (by simp)⟩
  · have hlen : (zs.take len).length = len := by rw [List.length_take]; omega
    unfold Ints
    rw [hlen]
    refine ⟨some x, cap, rfl, ⟨hl, hm⟩, fun h0 => ?_⟩
    have h0' := hc 0 (by omega)
    obtain ⟨b, off, spot⟩ := x
    have hs : spot = none := by
      cases spot with
      | none => rfl
      | some s => simp [Addr.add, World.cell?] at h0'; split at h0' <;> simp_all
    subst hs
    refine ⟨b, off, rfl, fun j hj => ?_⟩
    have hadd : (⟨b, off, none⟩ : Addr).add j = ⟨b, off + j, none⟩ := by unfold Addr.add; split <;> simp_all
    rw [← hadd, hc j (by omega)]
    simp [iv, List.getD_eq_getElem?_getD, hj]

end Go.Proofs.YtgebjjpcgakjgaaGreat

namespace Go.Proofs.YtgebjjpcgakjgaaGreat
set_option linter.all false
open Go.ChangeShapes Go.WideShapes Go.RowKit Go.Deep Go.WideElems Go.Maps

theorem trod_ints {H : Type} {enc : TypeId × Value → H} {P : Program} {W : World} {n : Nat} {t e : TypeId} {v : Value} {y : DataW H × List MemPlace}
    (ht : P.underlying t = some (.slice e)) (he : P.underlying e = some (.int .i64)) (hc : P.cellsOf e = 1)
    (h : DataW.trod enc P W 0 (fun _ => true) true n t [v] = some y) : ∃ xs, Ints W v xs := by
  rcases open_ints ht he hc h with ⟨hcs, _⟩ | ⟨x, l, c, zs, hcs, _, hl, hm, hz, _, hcell, hwz⟩
  · obtain rfl : v = .slice none 0 0 := by simpa using hcs
    exact ⟨_, row_ints (zs := []) (.inl ⟨rfl, rfl, rfl, rfl⟩)⟩
  · obtain rfl : v = .slice (some x) l c := by simpa using hcs
    exact ⟨_, row_ints (.inr ⟨_, rfl, hl, hm, by simpa using hz, hcell, hwz⟩)⟩

theorem trod_mx {H : Type} {enc : TypeId × Value → H} {P : Program} {W : World} {b0 : Nat} {t e : TypeId} {f0 f1 f2 f3 : Field} {v : Value} {d : DataW H} {p : List MemPlace}
    (hs : P.underlying t = some (.struct #[f0, f1, f2, f3])) (hone : oneCellFields P #[f0, f1, f2, f3] = true) (hC : P.cellsOf t = 4)
    (h0 : P.underlying f0.type = some (.int .i64)) (h1 : P.underlying f1.type = some (.int .i64)) (h2 : P.underlying f2.type = some (.int .i64)) (h3 : P.underlying f3.type = some (.slice e))
    (he : P.underlying e = some (.int .i64)) (hc : P.cellsOf e = 1)
    (hv : Value.okWide P W .any b0 t v) (h : DataW.Trod enc P W 0 (fun _ => true) true t v d p) :
    ∃ (aP aR aC : Int) (u : Value) (X : List Int), v = .agg #[.int .i64 aP, .int .i64 aR, .int .i64 aC, u] ∧ Ints W u X := by
  obtain ⟨v0, v1, v2, v3, y0, y1, y2, y3, n, rfl, _, _, g0, g1, g2, g3⟩ := Go.Joins.open_agg4 hs hone hC hv h
  obtain ⟨n0, e0, _, _⟩ := DataW.trod_int h0 g0
  obtain ⟨n1, e1, _, _⟩ := DataW.trod_int h1 g1
  obtain ⟨n2, e2, _, _⟩ := DataW.trod_int h2 g2
  obtain ⟨X, hX⟩ := trod_ints h3 he hc g3
  obtain rfl : v0 = .int .i64 n0 := by simpa using e0
  obtain rfl : v1 = .int .i64 n1 := by simpa using e1
  obtain rfl : v2 = .int .i64 n2 := by simpa using e2
  exact ⟨_, _, _, _, _, rfl, hX⟩

end Go.Proofs.YtgebjjpcgakjgaaGreat

namespace Go.Proofs.YtgebjjpcgakjgaaGreat
set_option linter.all false
open Go.RowKit

section
variable {P : Program} (w : World)

/-- append of nothing: the slice as it was -/
theorem run_append_none (t ty e : TypeId) (i : TypeInfo) (ht : P.underlying t = some (.slice e)) (hi : P.info? e = some i) (p q : Option Addr) (n cap c : Nat) (hn : n ≤ cap) :
    (Builtin.append_ #[t, t] ty #[.slice p n cap, .slice q 0 c]).run P w = .ok (.slice p n cap) w := by
  cases p <;> cases q <;>
    simp [Builtin.append_, run_underlying ht, sizeOf, typeInfo, hi, Builtin.lenOf, Builtin.firstCells, hn, loadCells, loadCellsFrom, storeCells]

/-- append of some one-cell elements that can be read, on an owned slice -/
theorem run_append_F (t ty e : TypeId) (i : TypeInfo) (z : Value) (bytes : Nat) (ht : P.underlying t = some (.slice e)) (hi : P.info? e = some i) (hz : i.zero = some z)
    (hsize : i.size = 1) (hby : i.bytes = bytes) (hzs : z.cells.size = 1)
    (lo hi' : Nat) (v : Value) (n : Nat) (f : Nat → Value) (hown : OwnF w lo hi' e v n f) (hlo : lo ≤ w.heap.size) (hhi : hi' ≤ w.heap.size)
    (u : Value) (m : Nat) (g : Nat → Value) (hx : Rd w u m g) (h1 : ∀ j, j < m → (g j).oneCell' = true) (h63 : n + m ≤ maxLen) (hbytes : (n + m) * bytes ≤ 140737488355328) :
    ∃ v' w', (Builtin.append_ #[t, t] ty #[v, u]).run P w = .ok v' w' ∧ OwnF w' lo w'.heap.size e v' (n + m) (fun j => if j < n then f j else g (j - n)) ∧ w.grownBy w' v.ownBlock := by
  obtain ⟨q, c, rfl, ⟨hmc, hcm⟩, hxc⟩ := hx
  by_cases hm : m = 0
  · subst hm
    obtain ⟨p, cap, rfl, hnc, _, _⟩ := hown.shape
    exact ⟨_, _, run_append_none w t ty e i ht hi p q n cap c hnc, (hown.mono (Nat.le_refl _) hhi).congr fun j hj => by rw [if_pos (by omega)], World.grownBy.refl _ _⟩
  · obtain ⟨b, off, rfl, hc⟩ := hxc (by omega)
    obtain ⟨xs, ho, hf⟩ := hown
    obtain ⟨v', w', hr, h2, h3, _⟩ := run_append_own (P := P) w lo t ty e i z 1 bytes ht hi hz hsize hby hzs (by omega) v n xs ho.1 ⟨b, off, none⟩ m c ((List.range m).map g) (by simp)
      (fun j x hx => by
        have hj : j < m := by
          rcases Nat.lt_or_ge j m with h | h
          · exact h
          · rw [List.getElem?_eq_none (by simpa using h)] at hx; cases hx
        simp [hj] at hx
        subst hx
        have hadd : (⟨b, off, none⟩ : Addr).add j = ⟨b, off + j, none⟩ := by unfold Addr.add; split <;> simp_all
        rw [hadd]
        exact hc j hj)
      (fun x hx => by
        simp only [List.mem_map, List.mem_range] at hx
        obtain ⟨j, hj, rfl⟩ := hx
        exact h1 j hj) h63 hbytes hlo
    refine ⟨v', w', hr, ⟨_, Own.of_row h2, fun j hj => ?_⟩, h3⟩
    have hl : xs.length = n := by have := ho.len; omega
    by_cases h : j < n
    · simp only [h, if_true]
      rw [List.getElem?_append_left (by omega), hf j h]
    · simp only [h, if_false]
      rw [List.getElem?_append_right (by omega), hl]
      have : j - n < m := by omega
      simp [this]
end

/-- append on a slice without room and without elements: new memory -/
theorem run_append_fresh {P : Program} (w : World) (t ty e : TypeId) (i : TypeInfo) (z : Value) (bytes : Nat) (ht : P.underlying t = some (.slice e)) (hi : P.info? e = some i) (hz : i.zero = some z)
    (hsize : i.size = 1) (hby : i.bytes = bytes) (hzs : z.cells.size = 1) (p : Option Addr)
    (u : Value) (m : Nat) (g : Nat → Value) (hx : Rd w u m g) (h0 : 0 < m) (h63 : m ≤ maxLen) (hbytes : m * bytes ≤ 140737488355328) :
    ∃ v' w', (Builtin.append_ #[t, t] ty #[.slice p 0 0, u]).run P w = .ok v' w' ∧ OwnF w' w.heap.size w'.heap.size e v' m g ∧ Below w.heap.size w w' := by
  obtain ⟨q, c, rfl, ⟨hmc, hcm⟩, hxc⟩ := hx
  obtain ⟨b, off, rfl, hc⟩ := hxc h0
  have hge := grownCap_ge w m 0 e
  have hle := grownCap_le_maxLen w m 0 e h63
  have hnews : ∀ (j : Nat) (v : Value), ((List.range m).map g)[j]? = some v → w.cell? ((⟨b, off, none⟩ : Addr).add j) = some v := fun j x hx => by
    have hj : j < m := by
      rcases Nat.lt_or_ge j m with h | h
      · exact h
      · rw [List.getElem?_eq_none (by simpa using h)] at hx; cases hx
    simp [hj] at hx
    subst hx
    have hadd : (⟨b, off, none⟩ : Addr).add j = ⟨b, off + j, none⟩ := by unfold Addr.add; split <;> simp_all
    rw [hadd]
    exact hc j hj
  have h63' : (m : Int) ≤ 9223372036854775807 := by unfold maxLen at h63; omega
  have fin : ∀ (cur : Array Value), cur.size = grownCap w m 0 e → (∀ j, j < m → cur[j]? = some (g j)) → OwnF (w.drew.alloc (.cells cur e)) w.heap.size (w.drew.alloc (.cells cur e)).heap.size e (.slice (some ⟨w.heap.size, 0, none⟩) m (grownCap w m 0 e)) m g := by
    intro cur hs hf
    refine OwnF.mk' (F := fun j => cur.getD j undef) ⟨cur, heap_alloc_new w.drew _, hs, fun j hj => ?_⟩ (Nat.le_refl _) (by simp) hge hle fun j hj => ?_
    · simp only [Array.getD_eq_getD_getElem?]; rw [Array.getElem?_eq_getElem (by omega)]; rfl
    · simp only [Array.getD_eq_getD_getElem?]; rw [hf j hj]; rfl
  have hlt : ∀ (l : List Value) (r : Array Value) (j : Nat), l.length = m → j < m → (l.toArray ++ r)[j]? = l[j]? := by
    intro l r j hl hj
    rw [Array.getElem?_append_left (by simpa [hl] using hj)]
    simp
  cases p with
  | none =>
    have hr := run_append_nil (P := P) w t ty e i z ht hi hz ⟨b, off, none⟩ m c ((List.range m).map g) (by simp [hsize]) hnews h0 h63' (by rw [hby]; omega)
    refine ⟨_, _, hr, fin _ ?_ fun j hj => ?_, ((Below.refl _ _).drew).alloc (by simp) _⟩
    · simp only [Array.size_append, List.size_toArray, List.length_map, List.length_range, size_zeroCells, hzs]; omega
    · rw [hlt _ _ _ (by simp) hj]; simp [hj]
  | some a =>
    have hr := run_append_grow (P := P) w t ty e i z ht hi hz a 0 0 [] (by simp) (by simp) ⟨b, off, none⟩ m c ((List.range m).map g) (by simp [hsize]) hnews (by omega) (by simpa using h63') (by rw [Nat.zero_add, nextslicecap_zero h0, hby]; omega)
    simp only [Nat.zero_add] at hr
    refine ⟨_, _, hr, fin _ ?_ fun j hj => ?_, ((Below.refl _ _).drew).alloc (by simp) _⟩
    · simp only [Array.size_append, List.size_toArray, List.length_map, List.length_range, List.length_nil, size_zeroCells, hzs]; omega
    · have e1 : ([] : List Value).toArray ++ ((List.range m).map g).toArray = ((List.range m).map g).toArray := by simp
      rw [e1, hlt _ _ _ (by simp) hj]; simp [hj]

theorem wpList_append_fresh {P : Program} {w : World} {ops : Array Oper} {rest : List Oper} {o : Oper} {a : Act} {Q : Exit → Act → World → Prop} (hgd : o.guard = none) (s x : Operand) (t : TypeId)
    (ho : o.op = .call { callee := .builtin .append, args := #[s, x], argTypes := #[t, t] })
    (e : TypeId) (z : Value) (bytes : Nat) (ht : P.underlying t = some (.slice e)) (hinfo : (P.info? e).map (fun i => (i.zero, i.size, i.bytes)) = some (some z, 1, bytes)) (hzs : z.cells.size = 1)
    (p : Option Addr) (hs : a.eval s = .slice p 0 0) (u : Value) (m : Nat) (g : Nat → Value) (hxu : a.eval x = u) (hx : Rd w u m g) (h0 : 0 < m) (h63 : m ≤ maxLen) (hbytes : m * bytes ≤ 140737488355328)
    (h : ∀ v' w', OwnF w' w.heap.size w'.heap.size e v' m g → Below w.heap.size w w' → wpList P ops Q rest (a.put o.dst v') w') :
    wpList P ops Q (o :: rest) a w := by
  refine wpList_plain hgd fun K hK' => ?_
  obtain ⟨i, hi, hz, hsz, hby⟩ := info_parts hinfo
  obtain ⟨v', w', hr, h2, h3⟩ := run_append_fresh (P := P) w t o.type e i z bytes ht hi hz hsz hby hzs p u m g hx h0 h63 hbytes
  unfold Oper.wp
  simp [execOp, ho, resolve, invoke, builtin, hs, hxu, hr, Result.andThen]
  exact hK' _ _ (h v' w' h2 h3)

/-- .. as a law of the walk -/
theorem wpList_append_F {P : Program} {w : World} {ops : Array Oper} {rest : List Oper} {o : Oper} {a : Act} {Q : Exit → Act → World → Prop} (hgd : o.guard = none) (s x : Operand) (t : TypeId)
    (ho : o.op = .call { callee := .builtin .append, args := #[s, x], argTypes := #[t, t] })
    (e : TypeId) (z : Value) (bytes : Nat) (ht : P.underlying t = some (.slice e)) (hinfo : (P.info? e).map (fun i => (i.zero, i.size, i.bytes)) = some (some z, 1, bytes)) (hzs : z.cells.size = 1)
    (lo hi' : Nat) (v : Value) (n : Nat) (f : Nat → Value) (hs : a.eval s = v) (hown : OwnF w lo hi' e v n f) (hlo : lo ≤ w.heap.size) (hhi : hi' ≤ w.heap.size)
    (u : Value) (m : Nat) (g : Nat → Value) (hxu : a.eval x = u) (hx : Rd w u m g) (h1 : ∀ j, j < m → (g j).oneCell' = true) (h63 : n + m ≤ maxLen) (hbytes : (n + m) * bytes ≤ 140737488355328)
    (h : ∀ v' w', OwnF w' lo w'.heap.size e v' (n + m) (fun j => if j < n then f j else g (j - n)) → w.grownBy w' v.ownBlock → wpList P ops Q rest (a.put o.dst v') w') :
    wpList P ops Q (o :: rest) a w := by
  refine wpList_plain hgd fun K hK' => ?_
  obtain ⟨i, hi, hz, hsz, hby⟩ := info_parts hinfo
  obtain ⟨v', w', hr, h2, h3⟩ := run_append_F (P := P) w t o.type e i z bytes ht hi hz hsz hby hzs lo hi' v n f hown hlo hhi u m g hx h1 h63 hbytes
  unfold Oper.wp
  simp [execOp, ho, resolve, invoke, builtin, hs, hxu, hr, Result.andThen]
  exact hK' _ _ (h v' w' h2 h3)

theorem grownBy_below {w w' : World} {v : Value} {lo hi : Nat} (h : w.grownBy w' v.ownBlock) (hlo : ∀ k, v.ownBlock = some k → lo ≤ k ∧ k < hi) {B : Nat} (h1 : B ≤ lo) (h2 : B ≤ w.heap.size) : Below B w w' :=
  (Below.refl B w).grown h h2 (fun k hk => Nat.le_trans h1 (hlo k hk).1)
theorem OwnF.blocks {w : World} {lo hi : Nat} {T : TypeId} {v : Value} {n : Nat} {f : Nat → Value} (h : OwnF w lo hi T v n f) : ∀ k, v.ownBlock = some k → lo ≤ k ∧ k < hi := by
  obtain ⟨xs, h, _⟩ := h
  exact fun k hk => ⟨(h.block hk).1, (h.block hk).2.1⟩
/-- behind an append on v: what is owned in other blocks stays -/
theorem OwnF.grown {w w' : World} {lo hi : Nat} {T : TypeId} {v u : Value} {n : Nat} {f : Nat → Value} (h : OwnF w lo hi T v n f) (hg : w.grownBy w' u.ownBlock) (hne : ∀ k, v.ownBlock = some k → u.ownBlock ≠ some k) : OwnF w' lo hi T v n f := by
  obtain ⟨xs, h, hf⟩ := h
  exact ⟨xs, ⟨ownsRow_of_block h.1 fun k hk => hg.block k (h.block hk).2.2 fun e => hne k hk e.symm, h.2⟩, hf⟩

/-- an empty slice, nil or not -/
theorem OwnF.nil (w : World) (lo hi : Nat) (T : TypeId) (f : Nat → Value) : OwnF w lo hi T (.slice none 0 0) 0 f := ⟨[], ⟨World.ownsRow_nil _ _ _ _, fun k hk => by simp [Value.ownBlock] at hk⟩, fun j hj => absurd hj (Nat.not_lt_zero _)⟩
theorem OwnF.made0 (w : World) (T : TypeId) (f : Nat → Value) : OwnF (w.alloc (.cells #[] T)) w.heap.size (w.heap.size + 1) T (.slice (some ⟨w.heap.size, 0, none⟩) 0 0) 0 f :=
  ⟨[], ⟨World.ownsRow_made w #[] 0 (Nat.le_refl _) (Nat.zero_le _) rfl, fun k hk => by simp [Value.ownBlock] at hk; omega⟩, fun j hj => absurd hj (Nat.not_lt_zero _)⟩

/-- the one value of a new block -/
theorem rd_one (W : World) (x : Value) (T : TypeId) {b : Nat} (h : b = W.heap.size) : Rd (W.alloc (.cells #[x] T)) (.slice (some ⟨b, 0, none⟩) 1 1) 1 (fun _ => x) := by
  subst h
  refine ⟨_, 1, rfl, ⟨Nat.le_refl _, by unfold maxLen; omega⟩, fun _ => ⟨_, 0, rfl, fun j hj => ?_⟩⟩
  obtain rfl : j = 0 := by omega
  exact cell_of_blk (heap_alloc_top W _) rfl

/-! ### lists of lists -/

/-- a slice of slices of ints that reads as a list of lists -/
def RdII (w : World) (v : Value) (rows : List (List Int)) : Prop :=
  ∃ f : Nat → Value, Rd w v rows.length f ∧ ∀ i, i < rows.length → Ints w (f i) (rows.getD i [])

theorem RdII.below {w w' : World} {v : Value} {rows : List (List Int)} (h : RdII w v rows) (hb : Below w.heap.size w w') : RdII w' v rows := by
  obtain ⟨f, h1, h2⟩ := h
  exact ⟨f, h1.below hb, fun i hi => (h2 i hi).below hb⟩
theorem RdII.qt {w w' : World} {v : Value} {rows : List (List Int)} (h : RdII w v rows) (hb : Qt w w') : RdII w' v rows := h.below (hb.below _)

/-- a slice of slices of ints that a call made: Ts the slices' type, Ti the ints' -/
def OwnII (Ts Ti : TypeId) (w : World) (lo hi : Nat) (v : Value) (rows : List (List Int)) : Prop :=
  ∃ f : Nat → Value, OwnF w lo hi Ts v rows.length f ∧ (∀ i, i < rows.length → OwnI Ti w lo hi (f i) (rows.getD i [])) ∧
    ∀ i j, i < j → j < rows.length → ∀ k, (f i).ownBlock = some k → (f j).ownBlock ≠ some k

namespace OwnII
variable {Ts Ti : TypeId} {w w' : World} {lo hi : Nat} {v : Value} {rows : List (List Int)}
theorem rd (h : OwnII Ts Ti w lo hi v rows) : RdII w v rows := by
  obtain ⟨f, h1, h2, _⟩ := h
  exact ⟨f, h1.rd, fun i hi => (h2 i hi).ints⟩
theorem keep (h : OwnII Ts Ti w lo hi v rows) (hb : ∀ k, lo ≤ k → k < hi → k < w.heap.size → w'.heap[k]? = w.heap[k]?) : OwnII Ts Ti w' lo hi v rows := by
  obtain ⟨f, h1, h2, h3⟩ := h
  exact ⟨f, h1.keep hb, fun i hi => Own.keep (h2 i hi) hb, h3⟩
theorem below (h : OwnII Ts Ti w lo hi v rows) (hb : Below w.heap.size w w') : OwnII Ts Ti w' lo hi v rows := h.keep fun k _ _ h3 => hb.block k h3
theorem frm {lo' hi' : Nat} (h : OwnII Ts Ti w lo hi v rows) (hb : Frm lo' hi' w w') (ho : hi ≤ lo' ∨ hi' ≤ lo) : OwnII Ts Ti w' lo hi v rows := h.keep fun k h1 h2 h3 => hb.block k h3 (by omega)
theorem mono {lo' hi' : Nat} (h : OwnII Ts Ti w lo hi v rows) (h1 : lo' ≤ lo) (h2 : hi ≤ hi') : OwnII Ts Ti w lo' hi' v rows := by
  obtain ⟨f, g1, g2, g3⟩ := h
  exact ⟨f, g1.mono h1 h2, fun i hi => (g2 i hi).mono h1 h2, g3⟩
theorem shape (h : OwnII Ts Ti w lo hi v rows) : ∃ p cap, v = .slice p rows.length cap ∧ rows.length ≤ cap ∧ cap ≤ maxLen := by
  obtain ⟨f, h1, _⟩ := h
  obtain ⟨p, cap, e, h2, h3, _⟩ := h1.shape
  exact ⟨p, cap, e, h2, h3⟩
/-- a row of its own is put behind the others -/
theorem snoc {v' x : Value} {xs : List Int} {mid : Nat} {f : Nat → Value} (g1 : OwnF w lo mid Ts v rows.length f) (g2 : ∀ i, i < rows.length → OwnI Ti w lo mid (f i) (rows.getD i []))
    (g3 : ∀ i j, i < j → j < rows.length → ∀ k, (f i).ownBlock = some k → (f j).ownBlock ≠ some k) (hx : OwnI Ti w mid hi x xs) (hm : lo ≤ mid) (hmh : mid ≤ hi) (hT : Ts ≠ Ti)
    (hg : w.grownBy w' v.ownBlock) (hsz : hi ≤ w'.heap.size)
    (hv : OwnF w' lo w'.heap.size Ts v' (rows.length + 1) (fun j => if j < rows.length then f j else x)) : OwnII Ts Ti w' lo w'.heap.size v' (rows ++ [xs]) := by
  have hrow : ∀ (y : Value) (ys : List Int) (lo1 hi1 : Nat), OwnI Ti w lo1 hi1 y ys → OwnI Ti w' lo1 hi1 y ys := by
    intro y ys lo1 hi1 hy
    refine ⟨ownsRow_of_block hy.1 fun k hk => hg.block k (Own.block hy hk).2.2 fun e => ?_, hy.2⟩
    obtain ⟨p, cap, hp, _⟩ := g1.shape
    have hvk := e.symm
    obtain ⟨zs, hz, _⟩ := g1
    rcases Own.row hz with ⟨e1, _⟩ | ⟨g, cap', F, e1, _, _, _, _, hr, _⟩
    · rw [e1] at hvk; simp [Value.ownBlock] at hvk
    · rw [e1] at hvk
      simp only [Value.ownBlock, Option.some.injEq] at hvk
      subst hvk
      rcases Own.row hy with ⟨e2, _⟩ | ⟨g', cap2, F2, e2, _, _, _, _, hr2, _⟩
      · rw [e2] at hk; simp [Value.ownBlock] at hk
      · rw [e2] at hk
        simp only [Value.ownBlock, Option.some.injEq] at hk
        subst hk
        obtain ⟨c, hc, _⟩ := hr
        obtain ⟨c2, hc2, _⟩ := hr2
        rw [hc] at hc2
        injection hc2 with hc2
        injection hc2 with _ hc2
        exact hT hc2
  refine ⟨_, by rw [List.length_append]; exact hv, fun i hi => ?_, fun i j hij hj k hk => ?_⟩
  · rw [List.length_append] at hi
    simp only [List.length_singleton] at hi
    by_cases hlt : i < rows.length
    · have e : (rows ++ [xs]).getD i [] = rows.getD i [] := by simp [List.getD_eq_getElem?_getD, List.getElem?_append_left hlt]
      simp only [hlt, if_true]
      rw [e]
      exact (hrow _ _ _ _ (g2 i hlt)).mono (Nat.le_refl _) (by omega)
    · have e : (rows ++ [xs]).getD i [] = xs := by
        have : i = rows.length := by omega
        subst this
        simp [List.getD_eq_getElem?_getD]
      simp only [hlt, if_false]
      rw [e]
      exact (hrow _ _ _ _ hx).mono hm hsz
  · rw [List.length_append] at hj
    simp only [List.length_singleton] at hj
    by_cases hlt : j < rows.length
    · simp only [hlt, if_true]
      simp only [show i < rows.length by omega, if_true] at hk
      exact g3 i j hij hlt k hk
    · simp only [hlt, if_false]
      simp only [show i < rows.length by omega, if_true] at hk
      intro e
      have h5 := (Own.block (g2 i (by omega)) hk).2.1
      have h6 := (Own.block hx e).1
      omega
end OwnII

end Go.Proofs.YtgebjjpcgakjgaaGreat

namespace Go.Proofs.YtgebjjpcgakjgaaGreat
set_option linter.all false
set_option maxRecDepth 100000
open Go.RowKit Go.Maps Go.WideMaps

/-- seven numbers as a key -/
def kls (e : List Int) : List Lit := e.map fun n => Lit.int .i64 n
def kv (e : List Int) : Value := .agg (e.map fun n => Value.int .i64 n).toArray
def kl (e : List Int) : Lit := .string (keyBytes (kls e))
/-- seven numbers, each from 0 to d -/
def K7 (d : Nat) (e : List Int) : Prop := e.length = 7 ∧ ∀ x ∈ e, 0 ≤ x ∧ x ≤ (d : Int)

theorem und56 : Tryz.prog.underlying 75 = some (.array 7 3) := by kernel_rfl
theorem und41 : Tryz.prog.underlying 61 = some (.map 75 3) := by kernel_rfl
theorem undI : Tryz.prog.underlying 3 = some (.int .i64) := by kernel_rfl
theorem arr7 : ArrKey Tryz.prog 75 3 7 := ⟨und56, by kernel_rfl, by kernel_rfl, by kernel_rfl⟩
theorem types_pos : ∃ m, Tryz.prog.types.size = m + 1 := ⟨Tryz.prog.types.size - 1, by have : 0 < Tryz.prog.types.size := of_decide_eq_true (by kernel_rfl); omega⟩
theorem klaw : Keyed Tryz.prog 75 := Keyed.of_law arr7.law
theorem zeroI (w : World) : (zeroValue 3).run Tryz.prog w = .ok (.int .i64 0) w := by kernel_rfl

theorem wf_of {d : Nat} {x : Int} (hd : d ≤ 1000000) (h : 0 ≤ x ∧ x ≤ (d : Int)) : (Lit.int .i64 x).wf = true := WalkArith.wf_i64 (by omega)
theorem keyOf_kv {e : List Int} {d : Nat} (h : K7 d e) (hd : d ≤ 1000000) : keyOf Tryz.prog 75 (kv e) = some (kl e) := by
  obtain ⟨hl, hr⟩ := h
  match e, hl with
  | [a, b, c, x, y, z, u], _ =>
    have wa := wf_of hd (hr a (by simp))
    have wb := wf_of hd (hr b (by simp))
    have wc := wf_of hd (hr c (by simp))
    have wx := wf_of hd (hr x (by simp))
    have wy := wf_of hd (hr y (by simp))
    have wz := wf_of hd (hr z (by simp))
    have wu := wf_of hd (hr u (by simp))
    have hkt := arr7.keyType types_pos
    obtain ⟨m, hm⟩ := types_pos
    unfold keyOf kv kl kls
    simp only [und56]
    rw [if_pos (by simp [hkt, Value.formed, und56, arr7.size]), hm]
    unfold Program.keyLits
    simp only [und56, Value.cells]
    rw [if_pos (by rw [arr7.size]; rfl), show List.range 7 = [0, 1, 2, 3, 4, 5, 6] from rfl]
    simp [arr7.one, Program.keyLits, undI, wa, wb, wc, wx, wy, wz, wu]
set_option maxRecDepth 100000 in
theorem kl_inj {e e' : List Int} {d d' : Nat} (h : K7 d e) (hd : d ≤ 1000000) (h' : K7 d' e') (hd' : d' ≤ 1000000) (hk : kl e = kl e') : e = e' := by
  have a := keyOf_kv h hd
  have b := keyOf_kv h' hd'
  rw [← hk] at b
  have := klaw.inj a b
  unfold kv at this
  injection this with this
  have := congrArg Array.toList this
  simp only [List.toList_toArray] at this
  exact (List.map_inj_right (fun x y hxy => by injection hxy)).1 this

end Go.Proofs.YtgebjjpcgakjgaaGreat

namespace Go.Proofs.YtgebjjpcgakjgaaGreat
set_option linter.all false
set_option maxRecDepth 100000
open Go.RowKit Go.Maps Go.WideMaps

abbrev DU := DataW Unit
def coef : DU → Int
  | .lit (.int _ c) => c
  | _ => 0
def SmL (h : Lit → Int) : List (Lit × DU) → Int
  | [] => 0
  | p :: l => coef p.2 * h p.1 + SmL h l
def SmD (D : DU) (h : Lit → Int) : Int := match D with
  | .map es => SmL h es
  | _ => 0
theorem SmL_perm (h : Lit → Int) {l l' : List (Lit × DU)} (hp : l.Perm l') : SmL h l = SmL h l' := by
  induction hp with
  | nil => rfl
  | cons x _ ih => simp only [SmL, ih]
  | swap x y l => simp only [SmL]; omega
  | trans _ _ a b => exact a.trans b
theorem SmL_split (h : Lit → Int) (f : Lit × DU → Bool) : ∀ l : List (Lit × DU), SmL h l = SmL h (l.filter f) + SmL h (l.filter fun p => !f p)
  | [] => rfl
  | p :: l => by
    have ih := SmL_split h f l
    cases hf : f p <;> simp [SmL, List.filter_cons, hf, ih] <;> omega
theorem find_one {l : List (Lit × DU)} {k : Lit} (hd : l.Pairwise fun p q => p.1 ≠ q.1) (hk : WideAt.IsKeyLit k) (h : Lit → Int) :
    SmL h (l.filter fun p => p.1.sameKey k) = coef ((DataW.map l).atKey k (.lit (.int .i64 0))) * h k := by
  induction l with
  | nil => simp [SmL, DataW.atKey, coef]
  | cons p l ih =>
    rw [List.pairwise_cons] at hd
    cases hs : p.1.sameKey k with
    | true =>
      have e := WideAt.sameKey_eq hs
      have hn : l.filter (fun p => p.1.sameKey k) = [] := by
        rw [List.filter_eq_nil_iff]
        intro q hq hqs
        exact hd.1 q hq (by rw [e, WideAt.sameKey_eq hqs])
      rw [List.filter_cons, if_pos hs, hn]
      simp [SmL, DataW.atKey, List.find?_cons, e, WideAt.sameKey_self hk]
    | false =>
      rw [List.filter_cons, if_neg (by rw [hs]; decide), ih hd.2]
      simp [DataW.atKey, List.find?_cons, hs]
theorem SmD_del {D : DU} (hD : Tidy D) {k : Lit} (hk : WideAt.IsKeyLit k) (h : Lit → Int) : SmD D h = SmD (D.del k) h + coef (D.atKey k (.lit (.int .i64 0))) * h k := by
  obtain ⟨es, rfl, hd⟩ := hD
  have := SmL_split h (fun p => p.1.sameKey k) es
  rw [find_one hd hk] at this
  show SmL h es = SmL h (es.filter fun p => !p.1.sameKey k) + _
  omega
theorem SmD_put {D : DU} (hD : Tidy D) {k : Lit} (h : Lit → Int) (d : DU) : SmD (D.put k d) h = SmD (D.del k) h + coef d * h k := by
  obtain ⟨es, rfl, hd⟩ := hD
  show SmL h (DataW.insert (k, d) (es.filter fun p => !p.1.sameKey k)) = SmL h (es.filter fun p => !p.1.sameKey k) + _
  rw [SmL_perm h (WideShapes.insert_perm _ _)]
  exact Int.add_comm _ _
theorem del_put {D : DU} (hD : Tidy D) {k : Lit} (hk : WideAt.IsKeyLit k) (h : Lit → Int) (d : DU) : SmD ((D.put k d).del k) h = SmD (D.del k) h := by
  have a := SmD_del (hD.put hk d) hk h
  rw [SmD_put hD h d, atKey_put_same hD.isMap hk] at a
  omega

/-! ### what is left of a map while it is ranged over -/
def SmK (D : DU) (left : Lit → Bool) (h : Lit → Int) : Int := match D with
  | .map es => SmL h (es.filter fun p => left p.1)
  | _ => 0
theorem SmK_all {D : DU} (hD : Tidy D) (hk : ∀ l, has D l = true → WideAt.IsKeyLit l) (hm : ∀ es, D = .map es → ∀ p ∈ es, WideAt.IsKeyLit p.1) (h : Lit → Int) : SmK D (has D) h = SmD D h := by
  obtain ⟨es, rfl, hd⟩ := hD
  show SmL h (es.filter fun p => has (.map es) p.1) = SmL h es
  rw [List.filter_eq_self.2]
  intro p hp
  exact List.any_eq_true.2 ⟨p, hp, WideAt.sameKey_self (hm es rfl p hp)⟩
theorem SmK_none {D : DU} {left : Lit → Bool} (hl : ∀ l, left l = false) (h : Lit → Int) : SmK D left h = 0 := by
  cases D <;> try rfl
  rename_i es
  show SmL h (es.filter fun p => left p.1) = 0
  rw [List.filter_eq_nil_iff.2 (fun p _ => by rw [hl]; decide)]
  rfl
theorem SmK_step {D : DU} (hD : Tidy D) {left : Lit → Bool} {k : Lit} (hk : WideAt.IsKeyLit k) (hl : left k = true) (h : Lit → Int) :
    SmK D left h = coef (D.atKey k (.lit (.int .i64 0))) * h k + SmK D (fun z => left z && !z.sameKey k) h := by
  obtain ⟨es, rfl, hd⟩ := hD
  show SmL h (es.filter fun p => left p.1) = _ + SmL h (es.filter fun p => left p.1 && !p.1.sameKey k)
  rw [SmL_split h (fun p => p.1.sameKey k) (es.filter fun p => left p.1), List.filter_filter, List.filter_filter, ← find_one hd hk]
  congr 1
  · congr 1
    apply List.filter_congr
    intro p _
    cases hs : p.1.sameKey k with
    | true => rw [WideAt.sameKey_eq hs, hl]; rfl
    | false => simp
  · congr 1
    apply List.filter_congr
    intro p _
    rw [Bool.and_comm]

end Go.Proofs.YtgebjjpcgakjgaaGreat
