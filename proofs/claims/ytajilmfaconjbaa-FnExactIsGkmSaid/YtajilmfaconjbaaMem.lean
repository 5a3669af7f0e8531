/-
  What slices of ints hold in memory, and what is left of it when the world changes: lemmas over any program, no function of the program in sight.
-/
import Derived.WalkKit
import Derived.WalkSpells
import Derived.WalkLawsBesides
import Derived.Deep.LoopGhost
import Derived.Deep.OwnRows
import Derived.Deep.QuietTactic
import Derived.BigQuiet
import Derived.Lib.Hide
namespace Go.Proofs.Ytajilmfaconjbaa
set_option linter.all false
open Go.RowKit

/-! ### frames -/

/-- what changed from w to w' lies in the blocks lo .. hi-1, or is new -/
structure Frm (lo hi : Nat) (w w' : World) : Prop where
  os : w'.os = w.os
  tape : w'.tape = w.tape
  output : w'.output = w.output
  size : w.heap.size ≤ w'.heap.size
  block : ∀ k, k < w.heap.size → (k < lo ∨ hi ≤ k) → w'.heap[k]? = w.heap[k]?

theorem Frm.refl (lo hi : Nat) (w : World) : Frm lo hi w w := ⟨rfl, rfl, rfl, Nat.le_refl _, fun _ _ _ => rfl⟩
theorem Frm.trans {lo hi : Nat} {a b c : World} (h : Frm lo hi a b) (k : Frm lo hi b c) : Frm lo hi a c :=
  ⟨k.os.trans h.os, k.tape.trans h.tape, k.output.trans h.output, Nat.le_trans h.size k.size,
    fun i hi' ho => (k.block i (Nat.lt_of_lt_of_le hi' h.size) ho).trans (h.block i hi' ho)⟩
theorem Frm.mono {lo hi lo' hi' : Nat} {a b : World} (h : Frm lo hi a b) (h1 : lo' ≤ lo) (h2 : hi ≤ hi') : Frm lo' hi' a b :=
  ⟨h.os, h.tape, h.output, h.size, fun i hi' ho => h.block i hi' (by omega)⟩
theorem Frm.of_below {w w' : World} (h : Below w.heap.size w w') (lo hi : Nat) : Frm lo hi w w' :=
  ⟨h.os, h.tape, h.output, h.size, fun i hi' _ => h.block i hi'⟩
theorem Frm.drewN {lo hi : Nat} {a w : World} (h : Frm lo hi a w) (n : Nat) : Frm lo hi a (w.drewN n) := ⟨h.os, h.tape, h.output, h.size, h.block⟩
/-- what changed lies from lo on -/
theorem Frm.below {lo hi : Nat} {a b : World} (h : Frm lo hi a b) {B : Nat} (hB : B ≤ lo) (hs : B ≤ a.heap.size) : Below B a b :=
  ⟨h.os, h.tape, h.output, h.size, fun k hk => h.block k (by omega) (.inl (by omega))⟩
theorem Below.drewN {B : Nat} {a w : World} (h : Below B a w) (n : Nat) : Below B a (w.drewN n) := ⟨h.os, h.tape, h.output, h.size, h.block⟩
theorem Below.of_drewN {B : Nat} (w : World) (n : Nat) : Below B w (w.drewN n) := ⟨rfl, rfl, rfl, Nat.le_refl _, fun _ _ => rfl⟩

theorem below_trans {a b c : World} (h : Below a.heap.size a b) (k : Below b.heap.size b c) : Below a.heap.size a c := h.trans (k.mono h.size)

/-! ### worlds that differ by draws alone -/

def Qt (w w' : World) : Prop := ∃ n, w' = w.drewN n
theorem Qt.refl (w : World) : Qt w w := ⟨0, rfl⟩
theorem Qt.trans {a b c : World} (h : Qt a b) (k : Qt b c) : Qt a c := by
  obtain ⟨n, rfl⟩ := h
  obtain ⟨m, rfl⟩ := k
  exact ⟨n + m, World.drewN_drewN _ _ _⟩
theorem Qt.drewN {a b : World} (h : Qt a b) (n : Nat) : Qt a (b.drewN n) := h.trans ⟨n, rfl⟩
theorem Qt.cell {w w' : World} (h : Qt w w') {a : Addr} {x : Value} (hx : w.cell? a = some x) : w'.cell? a = some x := by
  obtain ⟨n, rfl⟩ := h
  exact hx
theorem Qt.below {w w' : World} (h : Qt w w') (B : Nat) : Below B w w' := by
  obtain ⟨n, rfl⟩ := h
  exact Below.of_drewN w n
theorem Qt.frm {w w' : World} (h : Qt w w') (lo hi : Nat) : Frm lo hi w w' := Frm.of_below (h.below _) lo hi
theorem Qt.size {w w' : World} (h : Qt w w') : w'.heap.size = w.heap.size := by
  obtain ⟨n, rfl⟩ := h
  rfl
theorem Qt.heap {w w' : World} (h : Qt w w') : w'.heap = w.heap := by
  obtain ⟨n, rfl⟩ := h
  rfl
/-- a contract that draws, met inside a region that draws -/
theorem quiet_q {P : Program} {f : FuncId} {args : Array Value} {w : World} {n : Nat} {v : Value}
    (h : Calls P f args (w.drewN n) fun e w' => e = .returned v ∧ Qt (w.drewN n) w') : Calls P f args (w.drewN n) fun e w'' => e = .returned v ∧ ∃ m, w'' = w.drewN m :=
  h.mono fun _ _ ⟨he, m, hm⟩ => ⟨he, n + m, by rw [hm, World.drewN_drewN]⟩

/-! ### slices that can be read -/

/-- a slice that can be read: n elements of one cell -/
def Rd (w : World) (v : Value) (n : Nat) (f : Nat → Value) : Prop :=
  ∃ p cap, v = .slice p n cap ∧ (n ≤ cap ∧ cap ≤ maxLen) ∧ (0 < n → ∃ b off, p = some ⟨b, off, none⟩ ∧ ∀ j, j < n → w.cell? ⟨b, off + j, none⟩ = some (f j))

/-- the numbers of a list, as values -/
def iv (xs : List Int) (j : Nat) : Value := .int .i64 (xs.getD j 0)
def ivs (xs : List Int) : List Value := xs.map (Value.int .i64)

/-- a slice of ints that reads as a list -/
def Ints (w : World) (v : Value) (xs : List Int) : Prop := Rd w v xs.length (iv xs)

theorem Rd.of_cells {w w' : World} {v : Value} {n : Nat} {f : Nat → Value} (h : Rd w v n f) (hc : ∀ a x, w.cell? a = some x → w'.cell? a = some x) : Rd w' v n f := by
  obtain ⟨p, cap, rfl, hm, h⟩ := h
  refine ⟨p, cap, rfl, hm, fun h0 => ?_⟩
  obtain ⟨b, off, hp, hx⟩ := h h0
  exact ⟨b, off, hp, fun j hj => hc _ _ (hx j hj)⟩
theorem Rd.below {w w' : World} {v : Value} {n : Nat} {f : Nat → Value} (h : Rd w v n f) (hb : Below w.heap.size w w') : Rd w' v n f :=
  h.of_cells fun a x hx => by rw [hb.cell (World.block_lt_of_cell? w a hx)]; exact hx
theorem Rd.drewN {w : World} {v : Value} {n : Nat} {f : Nat → Value} (h : Rd w v n f) (q : Nat) : Rd (w.drewN q) v n f := h.of_cells fun _ _ hx => hx
theorem Rd.qt {w w' : World} {v : Value} {n : Nat} {f : Nat → Value} (h : Rd w v n f) (q : Qt w w') : Rd w' v n f := h.of_cells fun _ _ hx => q.cell hx
theorem Rd.congr {w : World} {v : Value} {n : Nat} {f g : Nat → Value} (h : Rd w v n f) (e : ∀ j, j < n → f j = g j) : Rd w v n g := by
  obtain ⟨p, cap, rfl, hm, h⟩ := h
  refine ⟨p, cap, rfl, hm, fun h0 => ?_⟩
  obtain ⟨b, off, hp, hx⟩ := h h0
  exact ⟨b, off, hp, fun j hj => by rw [← e j hj]; exact hx j hj⟩

theorem Ints.below {w w' : World} {v : Value} {xs : List Int} (h : Ints w v xs) (hb : Below w.heap.size w w') : Ints w' v xs := Rd.below h hb
theorem Ints.qt {w w' : World} {v : Value} {xs : List Int} (h : Ints w v xs) (q : Qt w w') : Ints w' v xs := Rd.qt h q
theorem Ints.drewN {w : World} {v : Value} {xs : List Int} (h : Ints w v xs) (q : Nat) : Ints (w.drewN q) v xs := Rd.drewN h q

/-! ### slices that a call made -/

/-- a slice of n elements of so many cells each, at the head of a block of its own between lo and hi; T: the element's type -/
def Own (w : World) (lo hi : Nat) (T : TypeId) (size : Nat) (v : Value) (n : Nat) (xs : List Value) : Prop :=
  w.ownsRow lo T size v n xs ∧ ∀ k, v.ownBlock = some k → k < hi

theorem ownsRow_of_block {w w' : World} {lo : Nat} {T : TypeId} {size : Nat} {v : Value} {n : Nat} {xs : List Value} (h : w.ownsRow lo T size v n xs)
    (hb : ∀ k, v.ownBlock = some k → w'.heap[k]? = w.heap[k]?) : w'.ownsRow lo T size v n xs := by
  refine ⟨h.1, ?_⟩
  rcases h.2 with hn | ⟨g, cap, cur, rfl, hb', hg, rest⟩
  · exact .inl hn
  · exact .inr ⟨g, cap, cur, rfl, hb', by rw [hb g rfl]; exact hg, rest⟩
theorem ownsRow_lo {w : World} {lo lo' : Nat} {T : TypeId} {size : Nat} {v : Value} {n : Nat} {xs : List Value} (h : w.ownsRow lo T size v n xs) (hl : lo' ≤ lo) : w.ownsRow lo' T size v n xs := by
  refine ⟨h.1, ?_⟩
  rcases h.2 with hn | ⟨g, cap, cur, rfl, hb', hg, rest⟩
  · exact .inl hn
  · exact .inr ⟨g, cap, cur, rfl, by omega, hg, rest⟩

namespace Own
variable {w w' : World} {lo hi : Nat} {T : TypeId} {size : Nat} {v : Value} {n : Nat} {xs : List Value}

theorem of_row (h : w.ownsRow lo T size v n xs) : Own w lo w.heap.size T size v n xs := ⟨h, fun k hk => (h.lt k hk).2⟩
theorem block (h : Own w lo hi T size v n xs) {k : Nat} (hk : v.ownBlock = some k) : lo ≤ k ∧ k < hi ∧ k < w.heap.size := ⟨(h.1.lt k hk).1, h.2 k hk, (h.1.lt k hk).2⟩
theorem mono {lo' hi' : Nat} (h : Own w lo hi T size v n xs) (h1 : lo' ≤ lo) (h2 : hi ≤ hi') : Own w lo' hi' T size v n xs :=
  ⟨ownsRow_lo h.1 h1, fun k hk => Nat.lt_of_lt_of_le (h.2 k hk) h2⟩
/-- the blocks lo .. hi-1 have not changed -/
theorem keep (h : Own w lo hi T size v n xs) (hb : ∀ k, lo ≤ k → k < hi → k < w.heap.size → w'.heap[k]? = w.heap[k]?) : Own w' lo hi T size v n xs :=
  ⟨ownsRow_of_block h.1 fun k hk => hb k (h.block hk).1 (h.block hk).2.1 (h.block hk).2.2, h.2⟩
theorem below (h : Own w lo hi T size v n xs) (hb : Below w.heap.size w w') : Own w' lo hi T size v n xs := h.keep fun k _ _ h3 => hb.block k h3
theorem frm {lo' hi' : Nat} (h : Own w lo hi T size v n xs) (hb : Frm lo' hi' w w') (ho : hi ≤ lo' ∨ hi' ≤ lo) : Own w' lo hi T size v n xs :=
  h.keep fun k h1 h2 h3 => hb.block k h3 (by omega)
theorem drewN (h : Own w lo hi T size v n xs) (q : Nat) : Own (w.drewN q) lo hi T size v n xs := h.keep fun _ _ _ _ => rfl
theorem len (h : Own w lo hi T size v n xs) : xs.length = n * size := h.1.1
end Own

theorem length_ivs (xs : List Int) : (ivs xs).length = xs.length := by simp [ivs]
theorem getElem?_ivs (xs : List Int) (j : Nat) (h : j < xs.length) : (ivs xs)[j]? = some (iv xs j) := by simp [ivs, iv, h]

/-- a slice of ints that a call made -/
def OwnI (T : TypeId) (w : World) (lo hi : Nat) (v : Value) (xs : List Int) : Prop := Own w lo hi T 1 v xs.length (ivs xs)


/-- what is owned, cells of one value each, can be read -/
theorem ownsRow_rd {w : World} {lo : Nat} {T : TypeId} {v : Value} {n : Nat} {xs : List Value} (h : w.ownsRow lo T 1 v n xs) {f : Nat → Value} (hf : ∀ j, j < n → xs[j]? = some (f j)) : Rd w v n f := by
  rcases h.2 with ⟨rfl, rfl⟩ | ⟨g, cap, cur, rfl, _, _, hm, hm2, _⟩
  · exact ⟨none, 0, rfl, ⟨Nat.le_refl _, Nat.zero_le _⟩, fun h0 => absurd h0 (by omega)⟩
  · refine ⟨_, cap, rfl, ⟨hm, hm2⟩, fun _ => ⟨g, 0, rfl, fun j hj => ?_⟩⟩
    have := h.cells (g := g) rfl j _ (hf j hj)
    have hadd : (⟨g, 0, none⟩ : Addr).add j = ⟨g, 0 + j, none⟩ := by unfold Addr.add; split <;> simp_all
    rw [hadd] at this
    exact this
theorem OwnI.ints {T : TypeId} {w : World} {lo hi : Nat} {v : Value} {xs : List Int} (h : OwnI T w lo hi v xs) : Ints w v xs :=
  ownsRow_rd h.1 fun j hj => getElem?_ivs xs j hj
theorem OwnI.below {T : TypeId} {w w' : World} {lo hi : Nat} {v : Value} {xs : List Int} (h : OwnI T w lo hi v xs) (hb : Below w.heap.size w w') : OwnI T w' lo hi v xs := Own.below h hb
theorem OwnI.frm {T : TypeId} {w w' : World} {lo hi lo' hi' : Nat} {v : Value} {xs : List Int} (h : OwnI T w lo hi v xs) (hb : Frm lo' hi' w w') (ho : hi ≤ lo' ∨ hi' ≤ lo) : OwnI T w' lo hi v xs := Own.frm h hb ho

/-- a whole block of one-cell elements, as an owned slice -/
theorem rowIs_owns {w : World} {b : Nat} {T : TypeId} {n : Nat} {f : Nat → Value} (h : w.rowIs b T n f) (hm : n ≤ maxLen) {xs : List Value} (hl : xs.length = n) (hf : ∀ j, j < n → xs[j]? = some (f j)) :
    w.ownsRow b T 1 (.slice (some ⟨b, 0, none⟩) n n) n xs := by
  obtain ⟨c, hb, hn, hc⟩ := h
  refine ⟨by omega, .inr ⟨b, n, c, rfl, Nat.le_refl _, hb, Nat.le_refl _, hm, by omega, ?_⟩⟩
  rw [Nat.mul_one, List.take_of_length_le (by simp [hn])]
  apply List.ext_getElem?
  intro i
  by_cases hi : i < n
  · rw [hf i hi, Array.getElem?_toList, hc i hi]
  · rw [List.getElem?_eq_none (by simp; omega), List.getElem?_eq_none (by omega)]
theorem rowIs_ints {w : World} {b : Nat} {T : TypeId} {xs : List Int} (h : w.rowIs b T xs.length (iv xs)) (hm : xs.length ≤ maxLen) :
    OwnI T w b w.heap.size (.slice (some ⟨b, 0, none⟩) xs.length xs.length) xs :=
  Own.of_row (rowIs_owns h hm (length_ivs xs) fun j hj => getElem?_ivs xs j hj)
/-- an owned slice, its block laid open -/
theorem Own.row {w : World} {lo hi : Nat} {T : TypeId} {v : Value} {n : Nat} {xs : List Value} (h : Own w lo hi T 1 v n xs) :
    (v = .slice none 0 0 ∧ n = 0 ∧ xs = []) ∨ ∃ g cap F, v = .slice (some ⟨g, 0, none⟩) n cap ∧ lo ≤ g ∧ g < hi ∧ n ≤ cap ∧ cap ≤ maxLen ∧ w.rowIs g T cap F ∧ ∀ j, j < n → xs[j]? = some (F j) := by
  obtain ⟨⟨hl, hr⟩, hh⟩ := h
  rcases hr with ⟨rfl, rfl⟩ | ⟨g, cap, cur, rfl, hb, hg, hn, hm, hs, ht⟩
  · exact .inl ⟨rfl, rfl, List.eq_nil_of_length_eq_zero (by omega)⟩
  · refine .inr ⟨g, cap, fun j => cur.getD j undef, rfl, hb, hh g rfl, hn, hm, ⟨cur, hg, by omega, fun i hi => ?_⟩, fun j hj => ?_⟩
    · simp [show i < cur.size by omega]
    · rw [← ht, List.getElem?_take, if_pos (by omega), Array.getElem?_toList]
      simp [show j < cur.size by omega]
theorem Own.of_rowIs {w : World} {lo hi g n cap : Nat} {T : TypeId} {F : Nat → Value} (h : w.rowIs g T cap F) (h1 : lo ≤ g) (h2 : g < hi) (h3 : n ≤ cap) (h4 : cap ≤ maxLen) {xs : List Value} (hl : xs.length = n) (hf : ∀ j, j < n → xs[j]? = some (F j)) :
    Own w lo hi T 1 (.slice (some ⟨g, 0, none⟩) n cap) n xs := by
  obtain ⟨c, hb, hn, hc⟩ := h
  refine ⟨⟨by omega, .inr ⟨g, cap, c, rfl, h1, hb, h3, h4, by omega, ?_⟩⟩, fun k hk => by simp [Value.ownBlock] at hk; omega⟩
  apply List.ext_getElem?
  intro i
  rw [Nat.mul_one, List.getElem?_take]
  by_cases hi : i < n
  · rw [if_pos hi, hf i hi, Array.getElem?_toList, hc i (by omega)]
  · rw [if_neg hi, List.getElem?_eq_none (by omega)]

/-! ### owned slices of one-cell elements, the content said by the index -/

def OwnF (w : World) (lo hi : Nat) (T : TypeId) (v : Value) (n : Nat) (f : Nat → Value) : Prop :=
  ∃ xs, Own w lo hi T 1 v n xs ∧ ∀ j, j < n → xs[j]? = some (f j)

namespace OwnF
variable {w w' : World} {lo hi : Nat} {T : TypeId} {v : Value} {n : Nat} {f : Nat → Value}

theorem shape (h : OwnF w lo hi T v n f) : ∃ p cap, v = .slice p n cap ∧ n ≤ cap ∧ cap ≤ maxLen ∧ (0 < n → ∃ g, p = some ⟨g, 0, none⟩ ∧ lo ≤ g ∧ g < hi ∧ g < w.heap.size) := by
  obtain ⟨xs, h, _⟩ := h
  rcases Own.row h with ⟨rfl, rfl, _⟩ | ⟨g, cap, F, rfl, h1, h2, h3, h4, hr, _⟩
  · exact ⟨none, 0, rfl, Nat.le_refl _, Nat.zero_le _, fun h => absurd h (Nat.lt_irrefl _)⟩
  · exact ⟨_, cap, rfl, h3, h4, fun _ => ⟨g, rfl, h1, h2, hr.lt⟩⟩
theorem at_ {p : Option Addr} {cap : Nat} (h : OwnF w lo hi T (.slice p n cap) n f) (h0 : 0 < n) : ∃ g, p = some ⟨g, 0, none⟩ ∧ lo ≤ g ∧ g < hi ∧ g < w.heap.size := by
  obtain ⟨p', cap', e, _, _, h⟩ := h.shape
  injection e with e1 e2 e3
  subst e1
  exact h h0
theorem le {p : Option Addr} {m cap : Nat} (h : OwnF w lo hi T (.slice p m cap) n f) : m = n ∧ n ≤ cap ∧ cap ≤ maxLen := by
  obtain ⟨p', cap', e, h1, h2, _⟩ := h.shape
  injection e with e1 e2 e3
  omega
theorem opened {g n' cap : Nat} (h : OwnF w lo hi T (.slice (some ⟨g, 0, none⟩) n' cap) n f) : ∃ F, w.rowIs g T cap F ∧ (∀ j, j < n → F j = f j) ∧ lo ≤ g ∧ g < hi ∧ n ≤ cap ∧ cap ≤ maxLen ∧ n' = n := by
  obtain ⟨xs, h, hf⟩ := h
  rcases Own.row h with ⟨e, _, _⟩ | ⟨g', cap', F, e, h1, h2, h3, h4, hr, hF⟩
  · injection e with e1; cases e1
  · injection e with e1 e2 e3
    injection e1 with e1
    injection e1 with e1
    subst e1 e2 e3
    exact ⟨F, hr, fun j hj => Option.some.inj ((hF j hj).symm.trans (hf j hj)), h1, h2, h3, h4, rfl⟩
theorem mk' {g cap : Nat} {F : Nat → Value} (h : w.rowIs g T cap F) (h1 : lo ≤ g) (h2 : g < hi) (h3 : n ≤ cap) (h4 : cap ≤ maxLen) (hf : ∀ j, j < n → F j = f j) : OwnF w lo hi T (.slice (some ⟨g, 0, none⟩) n cap) n f :=
  ⟨(List.range n).map f, Own.of_rowIs h h1 h2 h3 h4 (by simp) (fun j hj => by simp [hj, hf j hj]), fun j hj => by simp [hj]⟩
theorem cell {g n' cap : Nat} (h : OwnF w lo hi T (.slice (some ⟨g, 0, none⟩) n' cap) n f) {j : Nat} (hj : j < n) : w.cell? ⟨g, j, none⟩ = some (f j) := by
  obtain ⟨F, hr, hF, _, _, h3, _⟩ := h.opened
  rw [hr.cell (by omega), hF j hj]
theorem frozen {g n' cap : Nat} (h : OwnF w lo hi T (.slice (some ⟨g, 0, none⟩) n' cap) n f) (j : Nat) : w.frozen? ⟨g, j, none⟩ = false := by
  obtain ⟨F, hr, _⟩ := h.opened
  exact hr.frozen j
theorem set {g n' cap : Nat} (h : OwnF w lo hi T (.slice (some ⟨g, 0, none⟩) n' cap) n f) (k : Nat) (u : Value) : OwnF (w.setCell ⟨g, k, none⟩ u) lo hi T (.slice (some ⟨g, 0, none⟩) n' cap) n (fun j => if j = k then u else f j) := by
  obtain ⟨F, hr, hF, h1, h2, h3, h4, rfl⟩ := h.opened
  exact mk' (hr.set k u) h1 h2 h3 h4 fun j hj => by by_cases e : j = k <;> simp [e, hF j hj]
theorem congr {f' : Nat → Value} (h : OwnF w lo hi T v n f) (e : ∀ j, j < n → f j = f' j) : OwnF w lo hi T v n f' := by
  obtain ⟨xs, h, hf⟩ := h
  exact ⟨xs, h, fun j hj => by rw [hf j hj, e j hj]⟩
theorem keep (h : OwnF w lo hi T v n f) (hb : ∀ k, lo ≤ k → k < hi → k < w.heap.size → w'.heap[k]? = w.heap[k]?) : OwnF w' lo hi T v n f := by
  obtain ⟨xs, h, hf⟩ := h
  exact ⟨xs, h.keep hb, hf⟩
theorem below (h : OwnF w lo hi T v n f) (hb : Below w.heap.size w w') : OwnF w' lo hi T v n f := h.keep fun k _ _ h3 => hb.block k h3
theorem frm {lo' hi' : Nat} (h : OwnF w lo hi T v n f) (hb : Frm lo' hi' w w') (ho : hi ≤ lo' ∨ hi' ≤ lo) : OwnF w' lo hi T v n f := h.keep fun k h1 h2 h3 => hb.block k h3 (by omega)
theorem mono {lo' hi' : Nat} (h : OwnF w lo hi T v n f) (h1 : lo' ≤ lo) (h2 : hi ≤ hi') : OwnF w lo' hi' T v n f := by
  obtain ⟨xs, h, hf⟩ := h
  exact ⟨xs, h.mono h1 h2, hf⟩
theorem rd (h : OwnF w lo hi T v n f) : Rd w v n f := by
  obtain ⟨xs, h, hf⟩ := h
  exact ownsRow_rd h.1 hf
theorem ints {xs : List Int} (h : OwnF w lo hi T v xs.length (iv xs)) : OwnI T w lo hi v xs := by
  obtain ⟨ys, h, hf⟩ := h
  obtain rfl : ys = ivs xs := by
    apply List.ext_getElem?
    intro j
    by_cases hj : j < xs.length
    · rw [hf j hj, getElem?_ivs xs j hj]
    · rw [List.getElem?_eq_none (by have := h.len; omega), List.getElem?_eq_none (by rw [length_ivs]; omega)]
  exact h
end OwnF
theorem OwnI.fn {T : TypeId} {w : World} {lo hi : Nat} {v : Value} {xs : List Int} (h : OwnI T w lo hi v xs) : OwnF w lo hi T v xs.length (iv xs) := ⟨_, h, fun j hj => getElem?_ivs xs j hj⟩
/-- a store into an owned block -/
theorem Frm.setCell {lo hi : Nat} {a w : World} (h : Frm lo hi a w) {p : Addr} (h1 : lo ≤ p.block) (h2 : p.block < hi) (u : Value) : Frm lo hi a (w.setCell p u) :=
  h.trans ⟨rfl, rfl, rfl, by simp [World.setCell], fun k hk ho => Below.heap_setCell _ _ _ _ (by omega)⟩

/-! ### blocks of a struct -/

theorem heap_alloc_top (w : World) (o : Obj) : (w.alloc o).heap[w.heap.size]? = some o := heap_alloc_new w o
theorem heap_alloc_at (w : World) (o : Obj) {k : Nat} (h : k = w.heap.size) : (w.alloc o).heap[k]? = some o := by rw [h]; exact heap_alloc_top w o
theorem below_alloc (w : World) (o : Obj) : Below w.heap.size w (w.alloc o) := (Below.refl _ _).alloc (Nat.le_refl _) _
theorem below_alloc2 (w : World) (o p : Obj) : Below w.heap.size w ((w.alloc o).alloc p) := (below_alloc w o).alloc (by simp) _
theorem below_alloc3 (w : World) (o p q : Obj) : Below w.heap.size w (((w.alloc o).alloc p).alloc q) := (below_alloc2 w o p).alloc (by simp; omega) _
theorem heap_alloc_low (w : World) (o : Obj) {k : Nat} (h : k < w.heap.size) : (w.alloc o).heap[k]? = w.heap[k]? := heap_alloc_old w o h
theorem size_alloc (w : World) (o : Obj) : (w.alloc o).heap.size = w.heap.size + 1 := by simp
theorem cell_of_blk {w : World} {b : Nat} {c : Array Value} {T : TypeId} {q : Nat × Nat} (h : w.heap[b]? = some (.cells c T q)) {j : Nat} {x : Value} (hj : c[j]? = some x) : w.cell? ⟨b, j, none⟩ = some x := by
  simp [World.cell?, h, hj]
theorem free_of_blk {w : World} {b : Nat} {c : Array Value} {T : TypeId} (h : w.heap[b]? = some (.cells c T (0, 0))) (j : Nat) : w.frozen? ⟨b, j, none⟩ = false := by
  simp [World.frozen?, h]
theorem heap_setCell_at {w : World} {b : Nat} {c : Array Value} {T : TypeId} {q : Nat × Nat} (h : w.heap[b]? = some (.cells c T q)) (j : Nat) (u : Value) : (w.setCell ⟨b, j, none⟩ u).heap[b]? = some (.cells (c.setIfInBounds j u) T q) := by
  simp [World.setCell, Array.getElem?_modify, h]

theorem blk4 {w : World} {b : Nat} {x0 x1 x2 x3 : Value} {T : TypeId} (h : w.heap[b]? = some (.cells #[x0, x1, x2, x3] T (0, 0))) :
    w.cell? ⟨b, 0, none⟩ = some x0 ∧ w.cell? ⟨b, 1, none⟩ = some x1 ∧ w.cell? ⟨b, 2, none⟩ = some x2 ∧ w.cell? ⟨b, 3, none⟩ = some x3 ∧ (∀ j, w.frozen? ⟨b, j, none⟩ = false) ∧ b < w.heap.size :=
  ⟨cell_of_blk h rfl, cell_of_blk h rfl, cell_of_blk h rfl, cell_of_blk h rfl, free_of_blk h, (Array.getElem?_eq_some_iff.1 h).1⟩
theorem OwnI.shape {T : TypeId} {w : World} {lo hi : Nat} {v : Value} {xs : List Int} (h : OwnI T w lo hi v xs) : ∃ p cap, v = .slice p xs.length cap ∧ xs.length ≤ cap ∧ cap ≤ maxLen := by
  obtain ⟨p, cap, e, h1, h2, _⟩ := h.fn.shape
  exact ⟨p, cap, e, h1, h2⟩

theorem Own.setCell {w : World} {lo hi : Nat} {T : TypeId} {size : Nat} {v : Value} {n : Nat} {xs : List Value} (h : Own w lo hi T size v n xs) {a : Addr} (ho : a.block < lo ∨ hi ≤ a.block) (u : Value) : Own (w.setCell a u) lo hi T size v n xs :=
  h.keep fun k h1 h2 _ => Below.heap_setCell _ _ _ _ (by omega)
theorem OwnI.setCell {T : TypeId} {w : World} {lo hi : Nat} {v : Value} {xs : List Int} (h : OwnI T w lo hi v xs) {a : Addr} (ho : a.block < lo ∨ hi ≤ a.block) (u : Value) : OwnI T (w.setCell a u) lo hi v xs := Own.setCell h ho u
theorem OwnI.mono {T : TypeId} {w : World} {lo hi lo' hi' : Nat} {v : Value} {xs : List Int} (h : OwnI T w lo hi v xs) (h1 : lo' ≤ lo) (h2 : hi ≤ hi') : OwnI T w lo' hi' v xs := Own.mono h h1 h2
theorem size_setCell (w : World) (a : Addr) (u : Value) : (w.setCell a u).heap.size = w.heap.size := by simp [World.setCell]

theorem OwnF.setCell {w : World} {lo hi : Nat} {T : TypeId} {v : Value} {n : Nat} {f : Nat → Value} (h : OwnF w lo hi T v n f) {a : Addr} (ho : a.block < lo ∨ hi ≤ a.block) (u : Value) : OwnF (w.setCell a u) lo hi T v n f :=
  h.keep fun k h1 h2 _ => Below.heap_setCell _ _ _ _ (by omega)
/-- the four cells of a struct are written -/
theorem below_set4 {B : Nat} {a w : World} (h : Below B a w) {b : Nat} (hb : B ≤ b) (x0 x1 x2 x3 : Value) :
    Below B a ((((w.setCell ⟨b, 0, none⟩ x0).setCell ⟨b, 1, none⟩ x1).setCell ⟨b, 2, none⟩ x2).setCell ⟨b, 3, none⟩ x3) :=
  (((h.setCell hb _).setCell hb _).setCell hb _).setCell hb _
theorem own_set4 {T : TypeId} {w : World} {lo hi : Nat} {v : Value} {xs : List Int} (h : OwnI T w lo hi v xs) {b : Nat} (hb : b < lo ∨ hi ≤ b) (x0 x1 x2 x3 : Value) :
    OwnI T ((((w.setCell ⟨b, 0, none⟩ x0).setCell ⟨b, 1, none⟩ x1).setCell ⟨b, 2, none⟩ x2).setCell ⟨b, 3, none⟩ x3) lo hi v xs :=
  (((h.setCell hb _).setCell hb _).setCell hb _).setCell hb _

/-- a block that was there is there later -/
theorem blk_later {w w' : World} {b : Nat} {o : Obj} (h : w.heap[b]? = some o) (hb : Below w.heap.size w w') : w'.heap[b]? = some o := by
  rw [hb.block b (Array.getElem?_eq_some_iff.1 h).1]; exact h
theorem blk_lt {w : World} {b : Nat} {o : Obj} (h : w.heap[b]? = some o) : b < w.heap.size := (Array.getElem?_eq_some_iff.1 h).1

/-- a part of a slice -/
theorem Rd.part {w : World} {b off n cap : Nat} {f : Nat → Value} (h : Rd w (.slice (some ⟨b, off, none⟩) n cap) n f) (lo m c : Nat) (hm : lo + m ≤ n) (hc : m ≤ c) (hc2 : c ≤ maxLen) :
    Rd w (.slice (some ⟨b, off + lo, none⟩) m c) m (fun j => f (lo + j)) := by
  obtain ⟨p', cap', e, hh, h⟩ := h
  injection e with e1 e2 e3
  subst e1 e3
  refine ⟨_, c, rfl, ⟨hc, hc2⟩, fun h0 => ?_⟩
  obtain ⟨b', off', e1, hx⟩ := h (by omega)
  injection e1 with e1
  injection e1 with e1 e2
  subst e1 e2
  exact ⟨b, off + lo, rfl, fun j hj => by rw [Nat.add_assoc]; exact hx _ (by omega)⟩

theorem getD_lt {xs : List Int} {k : Nat} (h : k < xs.length) : xs.getD k 0 = xs[k] := by simp [List.getD_eq_getElem?_getD, h]
theorem getD_eq_list {xs ys : List Int} (hl : xs.length = ys.length) (h : ∀ j, j < xs.length → xs.getD j 0 = ys.getD j 0) : xs = ys := by
  apply List.ext_getElem hl
  intro i h1 h2
  have := h i h1
  simpa [List.getD_eq_getElem?_getD, h1, h2] using this

/-- a contract that leaves the world as it is, met inside a region that draws -/
theorem quiet_same {P : Program} {f : FuncId} {args : Array Value} {w : World} {n : Nat} {v : Value}
    (h : Calls P f args (w.drewN n) fun e w' => e = .returned v ∧ w.drewN n = w') : Calls P f args (w.drewN n) fun e w'' => e = .returned v ∧ ∃ m, w'' = w.drewN m :=
  h.mono fun _ _ ⟨he, hm⟩ => ⟨he, n, hm.symm⟩

/-! ### numbers -/

theorem w64 {n : Int} (h0 : -1000000000000000000 ≤ n) (h1 : n ≤ 1000000000000000000) : wrap64 n = n := IntWalk.wrap64_in n (by omega)
theorem k64 {n : Int} (h0 : -1000000000000000000 ≤ n) (h1 : n ≤ 1000000000000000000) : IntKind.i64.wrap n = n := IntWalk.i64_in n (by omega)
/-- a product of two counts that is small, under a name -/
theorem mul_named (a b : Nat) (h : a * b ≤ 1000000000000000000) : ∃ N, N = a * b ∧ wrap64 ((a : Int) * (b : Int)) = (N : Int) ∧ IntKind.i64.wrap ((a : Int) * (b : Int)) = (N : Int) := by
  have e : ((a * b : Nat) : Int) = (a : Int) * (b : Int) := Int.natCast_mul a b
  refine ⟨a * b, rfl, ?_, ?_⟩
  · rw [← e]; exact w64 (by omega) (by omega)
  · rw [← e]; exact k64 (by omega) (by omega)

/-- the ends of row i of rows of so many numbers -/
theorem row_named (i c : Nat) (h : i * c + c ≤ 1000000000000000000) : ∃ K, K = i * c ∧ Hid (wrap64 ((i : Int) * (c : Int)) = (K : Int) ∧ wrap64 (((i : Int) + 1) * (c : Int)) = (K : Int) + (c : Int)) ∧
    Hid (IntKind.i64.wrap ((i : Int) * (c : Int)) = (K : Int) ∧ IntKind.i64.wrap (((i : Int) + 1) * (c : Int)) = (K : Int) + (c : Int)) := by
  obtain ⟨K, hK, h1, h2⟩ := mul_named i c (by omega)
  have e : ((i : Int) + 1) * (c : Int) = (K : Int) + (c : Int) := by rw [Int.add_mul, hK, Int.natCast_mul, Int.one_mul]
  refine ⟨K, hK, ⟨h1, ?_⟩, ⟨h2, ?_⟩⟩
  · rw [e]; exact w64 (by omega) (by omega)
  · rw [e]; exact k64 (by omega) (by omega)

theorem ret_bool {a b : Bool} (h : a = b) : Ending.returned (.bool a) = .returned (.bool b) := by rw [h]
theorem ret_int {k : IntKind} {a b : Int} (h : a = b) : Ending.returned (.int k a) = .returned (.int k b) := by rw [h]

/-- n numbers in a row, from m on -/
def runs (m : Int) (n : Nat) : List Int := (List.range n).map fun (i : Nat) => m + (i : Int)
theorem length_runs (m : Int) (n : Nat) : (runs m n).length = n := by simp [runs]
theorem getD_runs (m : Int) (n j : Nat) (h : j < n) : (runs m n).getD j 0 = m + j := by simp [runs, List.getD_eq_getElem?_getD, h]
theorem iv_runs (m : Int) (n j : Nat) (h : j < n) : iv (runs m n) j = .int .i64 (m + j) := by simp only [iv, getD_runs m n j h]
theorem runs_zero (m : Int) : runs m 0 = [] := rfl

end Go.Proofs.Ytajilmfaconjbaa
