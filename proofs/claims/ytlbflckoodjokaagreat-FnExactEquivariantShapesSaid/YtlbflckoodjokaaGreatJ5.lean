/-
  Rows, each in a block of its own, while one of them grows in its own block.
  The rows and the free places of the spaces with a string: plain; strings.
  Shapes and strings: shortened, ShapeOfString, DualShape, ContainsShape.
  The rows of a shape in a box; a row by its value.
  GrassmannianPerm, StringOfShape.
  The shapes in a box: spec.ShapesIn, laws.boxShapes.
-/
import Derived.Test.YtlbflckoodjokaaGreatJ3
import Derived.Test.YtlbflckoodjokaaGreatJ4
import Derived.Lib.OwnKind
namespace Go.Proofs.YtlbflckoodjokaaGreat
set_option linter.all false
open Go.RowKit

/-- what is owned with elements of two kinds lies in two blocks -/
theorem OwnF.apart {w : World} {lo hi lo' hi' : Nat} {T T' : TypeId} {v v' : Value} {n n' : Nat} {f f' : Nat → Value} (h : OwnF w lo hi T v n f) (h' : OwnF w lo' hi' T' v' n' f') (hT : T ≠ T') : ∀ k, v.ownBlock = some k → v'.ownBlock ≠ some k := by
  intro k h1 h2
  obtain ⟨xs, h, _⟩ := h
  obtain ⟨ys, h', _⟩ := h'
  obtain ⟨c, fz, e⟩ := Lib.ownsRow_kind h.1 k h1
  obtain ⟨c', fz', e'⟩ := Lib.ownsRow_kind h'.1 k h2
  rw [e] at e'
  injection e' with e'
  injection e' with _ e' _
  exact hT e'

theorem OwnI.grownI {w w' : World} {lo hi : Nat} {T : TypeId} {v u : Value} {xs : List Int} (h : OwnI T w lo hi v xs) (hg : w.grownBy w' u.ownBlock) (hne : ∀ k, v.ownBlock = some k → u.ownBlock ≠ some k) : OwnI T w' lo hi v xs :=
  ⟨ownsRow_of_block h.1 fun k hk => hg.block k (Own.block h hk).2.2 fun e => hne k hk e.symm, h.2⟩
/-- rows, each in a block of its own -/
def RowsN (w : World) (lo hi N : Nat) (f : Nat → Value) (L : Nat → List Int) : Prop :=
  (∀ i, i < N → OwnI 3 w lo hi (f i) (L i)) ∧ ∀ i j, i < N → j < N → i ≠ j → ∀ b, (f i).ownBlock = some b → (f j).ownBlock ≠ some b
theorem RowsN.mono {w : World} {lo hi hi' N : Nat} {f : Nat → Value} {L : Nat → List Int} (h : RowsN w lo hi N f L) (hh : hi ≤ hi') : RowsN w lo hi' N f L :=
  ⟨fun i hi => (h.1 i hi).mono (Nat.le_refl _) hh, h.2⟩
theorem RowsN.grown {w w' : World} {lo hi N lo' hi' n : Nat} {f g : Nat → Value} {L : Nat → List Int} {v : Value} (h : RowsN w lo hi N f L) (hv : OwnF w lo' hi' 22 v n g) (hg : w.grownBy w' v.ownBlock) : RowsN w' lo hi N f L :=
  ⟨fun i hi => OwnI.grownI (h.1 i hi) hg fun k hk => OwnF.apart (h.1 i hi).fn hv (by decide) k hk, h.2⟩
theorem RowsN.set {w w' : World} {lo hi N k : Nat} {f : Nat → Value} {L : Nat → List Int} {u : Value} {r : List Int} (h : RowsN w lo hi N f L) (hk : k < N) (hhi : hi ≤ w.heap.size) (ho : OwnI 3 w' lo w'.heap.size u r)
    (hg : w.grownBy w' (f k).ownBlock) (hn : ∀ b, u.ownBlock = some b → (f k).ownBlock = some b ∨ w.heap.size ≤ b) :
    RowsN w' lo w'.heap.size N (fun i => if i = k then u else f i) (fun i => if i = k then r else L i) := by
  have hs := hg.size
  refine ⟨fun i hi => ?_, fun i j hi hj hij b => ?_⟩
  · by_cases e : i = k
    · simp only [e, if_true]; exact ho
    · simp only [e, if_false]
      exact OwnI.mono (OwnI.grownI (h.1 i hi) hg fun b hb => (h.2 i k hi hk e b hb)) (Nat.le_refl _) (by omega)
  · by_cases e : i = k
    · subst e
      have e2 : ¬ j = i := fun e => hij e.symm
      simp only [e2, if_true, if_false]
      intro hb hb2
      rcases hn b hb with h1 | h1
      · exact h.2 i j hi hj hij b h1 hb2
      · have := OwnF.blocks (h.1 j hj).fn b hb2
        omega
    · by_cases e2 : j = k
      · subst e2
        simp only [e, if_true, if_false]
        intro hb hb2
        rcases hn b hb2 with h1 | h1
        · exact h.2 i j hi hj hij b hb h1
        · have := OwnF.blocks (h.1 i hi).fn b hb
          omega
      · simp only [e, e2, if_false]
        exact h.2 i j hi hj hij b

/-- the outer slice of what is built: still empty, wherever it lies, or owned from lo on -/
def OwnE (w : World) (lo hi : Nat) (T : TypeId) (v : Value) (n : Nat) (f : Nat → Value) : Prop := (n = 0 ∧ ∃ p, v = .slice p 0 0) ∨ OwnF w lo hi T v n f
/-- append onto it -/
theorem wpList_append_E {P : Program} {w : World} {ops : Array Oper} {rest : List Oper} {o : Oper} {a : Act} {Q : Exit → Act → World → Prop} (hgd : o.guard = none) (s x : Operand) (t : TypeId)
    (ho : o.op = .call { callee := .builtin .append, args := #[s, x], argTypes := #[t, t] })
    (e : TypeId) (z : Value) (bytes : Nat) (ht : P.underlying t = some (.slice e)) (hinfo : (P.info? e).map (fun i => (i.zero, i.size, i.bytes)) = some (some z, 1, bytes)) (hzs : z.cells.size = 1)
    (lo hi' : Nat) (v : Value) (n : Nat) (f : Nat → Value) (hs : a.eval s = v) (hown : OwnE w lo hi' e v n f) (hlo : lo ≤ w.heap.size) (hhi : hi' ≤ w.heap.size)
    (u : Value) (m : Nat) (g : Nat → Value) (hxu : a.eval x = u) (hx : Rd w u m g) (h0 : 0 < m) (h1 : ∀ j, j < m → (g j).oneCell' = true) (h63 : n + m ≤ maxLen) (hbytes : (n + m) * bytes ≤ 140737488355328)
    (h : ∀ v' w', OwnF w' lo w'.heap.size e v' (n + m) (fun j => if j < n then f j else g (j - n)) → (Below w.heap.size w w' ∨ (OwnF w lo hi' e v n f ∧ w.grownBy w' v.ownBlock)) → wpList P ops Q rest (a.put o.dst v') w') :
    wpList P ops Q (o :: rest) a w := by
  rcases hown with ⟨rfl, p, rfl⟩ | hown
  · refine wpList_append_fresh hgd s x t ho e z bytes ht hinfo hzs p hs u m g hxu hx h0 (by omega) (by simpa using hbytes) fun v' w' h2 h3 => h v' w' ?_ (.inl h3)
    rw [Nat.zero_add]
    exact (h2.mono hlo (Nat.le_refl _)).congr fun j _ => by simp
  · exact wpList_append_F hgd s x t ho e z bytes ht hinfo hzs lo hi' v n f hs hown hlo hhi u m g hxu hx h1 h63 hbytes fun v' w' h2 h3 => h v' w' h2 (.inr ⟨hown, h3⟩)
/-- what lies below lo stays -/
theorem ownE_below {w w' : World} {lo hi n : Nat} {T : TypeId} {v : Value} {f : Nat → Value} (hlo : lo ≤ w.heap.size) (h : Below w.heap.size w w' ∨ (OwnF w lo hi T v n f ∧ w.grownBy w' v.ownBlock)) : Below lo w w' := by
  rcases h with h | ⟨h, hg⟩
  · exact h.mono hlo
  · exact grownBy_below hg h.blocks (Nat.le_refl _) hlo
/-- and so do rows in blocks of their own -/
theorem RowsN.appE {w w' : World} {lo hi N lo' hi' n : Nat} {f g : Nat → Value} {L : Nat → List Int} {v : Value} (h : RowsN w lo hi N f L) (hg : Below w.heap.size w w' ∨ (OwnF w lo' hi' 22 v n g ∧ w.grownBy w' v.ownBlock)) : RowsN w' lo hi N f L := by
  rcases hg with hg | ⟨h1, h2⟩
  · exact ⟨fun i hi => (h.1 i hi).below hg, h.2⟩
  · exact h.grown h1 h2

theorem RowsN.congr {w : World} {lo hi N : Nat} {f f' : Nat → Value} {L L' : Nat → List Int} (h : RowsN w lo hi N f L) (hf : ∀ i, i < N → f' i = f i) (hL : ∀ i, i < N → L' i = L i) : RowsN w lo hi N f' L' :=
  ⟨fun i hi => by rw [hf i hi, hL i hi]; exact h.1 i hi, fun i j hi hj hij => by rw [hf i hi, hf j hj]; exact h.2 i j hi hj hij⟩
theorem RowsN.below {w w' : World} {lo hi N : Nat} {f : Nat → Value} {L : Nat → List Int} (h : RowsN w lo hi N f L) (hb : Below w.heap.size w w') : RowsN w' lo hi N f L :=
  ⟨fun i hi => (h.1 i hi).below hb, h.2⟩
/-- one row more, made later -/
theorem RowsN.snoc {w : World} {lo mid hi N : Nat} {f : Nat → Value} {L : Nat → List Int} {x : Value} {r : List Int} (h : RowsN w lo mid N f L) (hx : OwnI 3 w mid hi x r) (hm : lo ≤ mid) (hmh : mid ≤ hi) :
    RowsN w lo hi (N + 1) (fun i => if i < N then f i else x) (fun i => if i < N then L i else r) := by
  refine ⟨fun i hi => ?_, fun i j hi hj hij b => ?_⟩
  · by_cases e : i < N
    · simp only [e, if_true]; exact (h.1 i e).mono (Nat.le_refl _) hmh
    · simp only [e, if_false]; exact hx.mono hm (Nat.le_refl _)
  · by_cases e : i < N
    · by_cases e2 : j < N
      · simp only [e, e2, if_true]
        exact h.2 i j e e2 hij b
      · simp only [e, e2, if_true, if_false]
        intro hb hb2
        have := OwnF.blocks (h.1 i e).fn b hb
        have := OwnF.blocks hx.fn b hb2
        omega
    · by_cases e2 : j < N
      · simp only [e, e2, if_true, if_false]
        intro hb hb2
        have := OwnF.blocks (h.1 j e2).fn b hb2
        have := OwnF.blocks hx.fn b hb
        omega
      · omega
/-- two lots of rows, the second made later -/
theorem RowsN.join {w : World} {lo mid hi N M : Nat} {f g : Nat → Value} {L K : Nat → List Int} (h : RowsN w lo mid N f L) (hx : RowsN w mid hi M g K) (hm : lo ≤ mid) (hmh : mid ≤ hi) :
    RowsN w lo hi (N + M) (fun i => if i < N then f i else g (i - N)) (fun i => if i < N then L i else K (i - N)) := by
  refine ⟨fun i hi => ?_, fun i j hi hj hij b => ?_⟩
  · by_cases e : i < N
    · simp only [e, if_true]; exact (h.1 i e).mono (Nat.le_refl _) hmh
    · simp only [e, if_false]; exact (hx.1 _ (by omega)).mono hm (Nat.le_refl _)
  · by_cases e : i < N
    · by_cases e2 : j < N
      · simp only [e, e2, if_true]
        exact h.2 i j e e2 hij b
      · simp only [e, e2, if_true, if_false]
        intro hb hb2
        have := OwnF.blocks (h.1 i e).fn b hb
        have := OwnF.blocks (hx.1 (j - N) (by omega)).fn b hb2
        omega
    · by_cases e2 : j < N
      · simp only [e, e2, if_true, if_false]
        intro hb hb2
        have := OwnF.blocks (h.1 j e2).fn b hb2
        have := OwnF.blocks (hx.1 (i - N) (by omega)).fn b hb
        omega
      · simp only [e, e2, if_false]
        exact hx.2 _ _ (by omega) (by omega) (by omega) b
/-- a list of rows, taken apart -/
theorem OwnII.rowsN {w : World} {lo hi : Nat} {v : Value} {rows : List (List Int)} (h : OwnII 22 3 w lo hi v rows) : ∃ f, OwnF w lo hi 22 v rows.length f ∧ RowsN w lo hi rows.length f fun i => rows.getD i [] := by
  obtain ⟨f, h1, h2, h3⟩ := h
  refine ⟨f, h1, h2, fun i j hi hj hij b hb hb2 => ?_⟩
  rcases Nat.lt_or_gt_of_ne hij with e | e
  · exact h3 i j e hj b hb hb2
  · exact h3 j i e hi b hb2 hb
/-- .. and together -/
theorem RowsN.rd {w : World} {lo hi lo' hi' : Nat} {v : Value} {rows : List (List Int)} {f : Nat → Value} {L : Nat → List Int} (h : RowsN w lo hi rows.length f L) (hv : OwnE w lo' hi' 22 v rows.length f) (hL : ∀ i, i < rows.length → L i = rows.getD i []) : RdII w v rows := by
  refine ⟨f, ?_, fun i hi => by rw [← hL i hi]; exact (h.1 i hi).ints⟩
  rcases hv with ⟨e, p, rfl⟩ | hv
  · rw [e]
    exact ⟨p, 0, rfl, ⟨Nat.le_refl _, Nat.zero_le _⟩, fun h => absurd h (Nat.lt_irrefl _)⟩
  · exact hv.rd

/-! ### two loops: rows are put behind rows, and the second lot grows in place -/

theorem OwnE.keepB {w w' : World} {lo hi n B : Nat} {T : TypeId} {v : Value} {f : Nat → Value} (h : OwnE w lo hi T v n f) (hb : Below B w w') (hh : hi ≤ B) : OwnE w' lo hi T v n f := by
  rcases h with h | h
  · exact .inl h
  · exact .inr (h.keep fun k _ h2 _ => hb.block k (by omega))
theorem RowsN.keepB {w w' : World} {lo hi N B : Nat} {f : Nat → Value} {L : Nat → List Int} (h : RowsN w lo hi N f L) (hb : Below B w w') (hh : hi ≤ B) : RowsN w' lo hi N f L :=
  ⟨fun i hi => Own.keep (h.1 i hi) fun k _ h2 _ => hb.block k (by omega), h.2⟩

/-- one round of the first loop, put together -/
theorem RowsN.round1 {wr W w8 : World} {lo k : Nat} {fo : Nat → Value} {L : Nat → List Int} {s6 v7 : Value} {r : List Int} (hN : RowsN wr lo wr.heap.size k fo L) (hlo : lo ≤ wr.heap.size)
    (hW : Below wr.heap.size wr W) (ho7 : OwnI 3 W wr.heap.size W.heap.size v7 r)
    (hg : Below W.heap.size W w8 ∨ (OwnF W lo wr.heap.size 22 s6 k fo ∧ W.grownBy w8 s6.ownBlock)) :
    RowsN w8 lo w8.heap.size (k + 1) (fun j => if j < k then fo j else v7) (fun j => if j < k then L j else r) ∧ Below lo wr w8 := by
  have hs := hW.size
  have hb8 := ownE_below (by omega) hg
  have hs8 := hb8.size
  exact ⟨((RowsN.snoc (hN.keepB hW (Nat.le_refl _)) ho7 hlo hs).appE hg).mono hs8, (hW.mono hlo).trans hb8⟩

/-- as OwnE, and it does not lie where t lies -/
def OwnE2 (w : World) (lo hi : Nat) (T : TypeId) (v : Value) (n : Nat) (f : Nat → Value) (t : Value) : Prop := (n = 0 ∧ ∃ p, v = .slice p 0 0) ∨ (OwnF w lo hi T v n f ∧ ∀ b, v.ownBlock = some b → t.ownBlock ≠ some b)
def App2 (w w' : World) (lo hi : Nat) (T : TypeId) (v v' : Value) (n : Nat) (f : Nat → Value) (t : Value) : Prop :=
  (Below w.heap.size w w' ∧ ∀ b, v'.ownBlock = some b → w.heap.size ≤ b) ∨ (OwnF w lo hi T v n f ∧ (∀ b, v.ownBlock = some b → t.ownBlock ≠ some b) ∧ w.grownBy w' v.ownBlock ∧ ∀ b, v'.ownBlock = some b → v.ownBlock = some b ∨ w.heap.size ≤ b)
/-- append onto it -/
theorem wpList_append_E2 {P : Program} {w : World} {ops : Array Oper} {rest : List Oper} {o : Oper} {a : Act} {Q : Exit → Act → World → Prop} (hgd : o.guard = none) (s x : Operand) (t : TypeId)
    (ho : o.op = .call { callee := .builtin .append, args := #[s, x], argTypes := #[t, t] })
    (e : TypeId) (z : Value) (bytes : Nat) (ht : P.underlying t = some (.slice e)) (hinfo : (P.info? e).map (fun i => (i.zero, i.size, i.bytes)) = some (some z, 1, bytes)) (hzs : z.cells.size = 1)
    (lo hi' : Nat) (v : Value) (n : Nat) (f : Nat → Value) (tB : Value) (hs : a.eval s = v) (hown : OwnE2 w lo hi' e v n f tB) (hlo : lo ≤ w.heap.size) (hhi : hi' ≤ w.heap.size)
    (u : Value) (m : Nat) (g : Nat → Value) (hxu : a.eval x = u) (hx : Rd w u m g) (h0 : 0 < m) (h1 : ∀ j, j < m → (g j).oneCell' = true) (h63 : n + m ≤ maxLen) (hbytes : (n + m) * bytes ≤ 140737488355328)
    (h : ∀ v' w', OwnF w' lo w'.heap.size e v' (n + m) (fun j => if j < n then f j else g (j - n)) → App2 w w' lo hi' e v v' n f tB → wpList P ops Q rest (a.put o.dst v') w') :
    wpList P ops Q (o :: rest) a w := by
  rcases hown with ⟨rfl, p, rfl⟩ | ⟨hown, hne⟩
  · refine wpList_append_fresh hgd s x t ho e z bytes ht hinfo hzs p hs u m g hxu hx h0 (by omega) (by simpa using hbytes) fun v' w' h2 h3 => h v' w' ?_ (.inl ⟨h3, fun b hb => (h2.blocks b hb).1⟩)
    rw [Nat.zero_add]
    exact (h2.mono hlo (Nat.le_refl _)).congr fun j _ => by simp
  · exact wpList_append_G hgd s x t ho e z bytes ht hinfo hzs lo hi' v n f hs hown hlo hhi u m g hxu hx h1 h63 hbytes fun v' w' h2 h3 h4 => h v' w' h2 (.inr ⟨hown, hne, h3, h4⟩)

/-- what stands at the head of the second loop: the outer slice s, the rows (of which the last still lie in t alone) -/
def Lot (w : World) (lo : Nat) (s t : Value) (ra rb k : Nat) (fB : Nat → Value) (L : Nat → List Int) : Prop :=
  ∃ fo, OwnE2 w lo w.heap.size 22 s (ra + k) fo t ∧ RowsN w lo w.heap.size (ra + rb) fo L ∧ OwnF w lo w.heap.size 22 t rb fB ∧ ∀ i, k ≤ i → i < rb → fo (ra + i) = fB i
theorem Lot.row {w : World} {lo ra rb k : Nat} {s t : Value} {fB : Nat → Value} {L : Nat → List Int} (h : Lot w lo s t ra rb k fB L) (hk : k < rb) : OwnI 3 w lo w.heap.size (fB k) (L (ra + k)) := by
  obtain ⟨fo, _, h2, _, h4⟩ := h
  rw [← h4 k (Nat.le_refl _) hk]
  exact h2.1 _ (by omega)
/-- the two lots, as they come from what was made -/
theorem Lot.start {wr w9 : World} {lo ra : Nat} {s t : Value} {fo : Nat → Value} {LA : Nat → List Int} {rows : List (List Int)} (hlo : lo ≤ wr.heap.size) (hE : OwnE wr lo wr.heap.size 22 s ra fo) (hN : RowsN wr lo wr.heap.size ra fo LA)
    (hb : Below wr.heap.size wr w9) (hB : OwnII 22 3 w9 wr.heap.size w9.heap.size t rows) :
    ∃ fB, Lot w9 lo s t ra rows.length 0 fB (fun i => if i < ra then LA i else rows.getD (i - ra) []) := by
  obtain ⟨fB, hB1, hB2⟩ := hB.rowsN
  have hs := hb.size
  refine ⟨fB, fun i => if i < ra then fo i else fB (i - ra), ?_, (hN.keepB hb (Nat.le_refl _)).join hB2 hlo hs, hB1.mono hlo (Nat.le_refl _), fun i _ hi => ?_⟩
  · rcases hE with hE | hE
    · exact .inl hE
    · refine .inr ⟨((hE.keep fun k _ h2 _ => hb.block k h2).mono (Nat.le_refl _) hs).congr fun j hj => ?_, fun b h1 h2 => ?_⟩
      · simp only [show j < ra by omega, if_true]
      · have := hE.blocks b h1
        have := hB1.blocks b h2
        omega
  · simp only [show ¬ ra + i < ra by omega, if_false]
    congr 1; omega
/-- one round: the row grows in place, and then the outer slice -/
theorem Lot.round {wr w7 W : World} {lo ra rb k : Nat} {s t v7 : Value} {fB : Nat → Value} {L : Nat → List Int} {r : List Int} (h : Lot wr lo s t ra rb k fB L) (hk : k < rb) (hlo : lo ≤ wr.heap.size)
    (ho : OwnI 3 w7 lo w7.heap.size v7 r) (hg : wr.grownBy w7 (fB k).ownBlock) (hn : ∀ b, v7.ownBlock = some b → (fB k).ownBlock = some b ∨ wr.heap.size ≤ b) (hW : Below w7.heap.size w7 W) :
    ∃ fo, OwnE2 W lo wr.heap.size 22 s (ra + k) fo t ∧ Below lo wr W ∧
      ∀ v8 w8, OwnF w8 lo w8.heap.size 22 v8 (ra + k + 1) (fun j => if j < ra + k then fo j else v7) → App2 W w8 lo wr.heap.size 22 s v8 (ra + k) fo t →
        Lot w8 lo v8 t ra rb (k + 1) fB (fun i => if i = ra + k then r else L i) ∧ Below lo wr w8 := by
  obtain ⟨fo, h1, h2, h3, h4⟩ := h
  have hs := hg.size
  have hsW := hW.size
  have ek := h4 k (Nat.le_refl _) hk
  have hrow := h2.1 (ra + k) (by omega)
  rw [ek] at hrow
  have hbW : Below lo wr W := (grownBy_below hg hrow.fn.blocks (Nat.le_refl _) hlo).trans (hW.mono (by omega))
  have hN := (h2.set (k := ra + k) (by omega) (Nat.le_refl _) ho (by rw [ek]; exact hg) (by rw [ek]; exact hn)).below hW
  have h3' : OwnF W lo wr.heap.size 22 t rb fB := (OwnF.grown h3 hg fun b e1 e2 => OwnF.apart hrow.fn h3 (by decide) b e2 e1).below hW
  refine ⟨fo, ?_, hbW, fun v8 w8 ho8 hg8 => ?_⟩
  · rcases h1 with h1 | ⟨h1, hne⟩
    · exact .inl h1
    · exact .inr ⟨(OwnF.grown h1 hg fun b e1 e2 => OwnF.apart hrow.fn h1 (by decide) b e2 e1).below hW, hne⟩
  · have hb8 : Below lo W w8 := by
      rcases hg8 with ⟨hg8, _⟩ | ⟨hg8, _, hg9, _⟩
      · exact hg8.mono (by omega)
      · exact grownBy_below hg9 hg8.blocks (Nat.le_refl _) (by omega)
    have hs8 := hb8.size
    refine ⟨⟨fun i => if i = ra + k then v7 else fo i, .inr ⟨?_, ?_⟩, ?_, ?_, fun i hi1 hi2 => ?_⟩, hbW.trans hb8⟩
    · refine ho8.congr fun j hj => ?_
      by_cases e : j = ra + k
      · simp [e]
      · simp [e, show j < ra + k by omega]
    · intro b e1 e2
      have hlt := h3'.blocks b e2
      rcases hg8 with ⟨_, hg8⟩ | ⟨_, hne, _, hg8⟩
      · have := hg8 b e1; omega
      · rcases hg8 b e1 with e3 | e3
        · exact hne b e3 e2
        · omega
    · have hg9 : Below W.heap.size W w8 ∨ (OwnF W lo wr.heap.size 22 s (ra + k) fo ∧ W.grownBy w8 s.ownBlock) := by
        rcases hg8 with ⟨hg8, _⟩ | ⟨hg8, _, hg9, _⟩
        · exact .inl hg8
        · exact .inr ⟨hg8, hg9⟩
      exact (hN.appE hg9).mono (by omega)
    · rcases hg8 with ⟨hg8, _⟩ | ⟨_, hne, hg9, _⟩
      · exact (h3'.below hg8).mono (Nat.le_refl _) (by omega)
      · exact (OwnF.grown h3' hg9 fun b e1 e2 => hne b e2 e1).mono (Nat.le_refl _) (by omega)
    · simp only [show ¬ ra + i = ra + k by omega, if_false]
      exact h4 i (by omega) hi2
/-- .. and at the end -/
theorem Lot.rd {w : World} {lo ra rb : Nat} {s t : Value} {fB : Nat → Value} {L : Nat → List Int} {rows : List (List Int)} (h : Lot w lo s t ra rb rb fB L) (hl : rows.length = ra + rb) (hL : ∀ i, i < ra + rb → L i = rows.getD i []) : RdII w s rows := by
  obtain ⟨fo, h1, h2, _, _⟩ := h
  rw [← hl] at h1 h2 hL
  refine h2.rd (lo' := lo) (hi' := w.heap.size) ?_ hL
  rcases h1 with h1 | ⟨h1, _⟩
  · exact .inl h1
  · exact .inr h1

theorem own_zeros {w : World} {lo hi c : Nat} {v : Value} {xs : List Int} (hl : xs.length = c) (h : OwnF w lo hi 3 v (c + c) (fun j => if j < c then iv xs j else (Value.int .i64 0).cells[0]!)) : OwnI 3 w lo hi v (xs ++ List.replicate c 0) := by
  refine own_join ?_
  rw [hl, List.length_replicate]
  refine h.congr fun j hj => ?_
  by_cases e : j < c
  · simp [e]
  · simp only [e, if_false]
    unfold iv
    rw [List.getD_eq_getElem?_getD]
    simp [show j - c < c by omega, Value.cells]

theorem ints_drop {w : World} {b n cap c : Nat} {xs : List Int} (h : Ints w (.slice (some ⟨b, 0, none⟩) n cap) xs) (hl : xs.length = n) (hc : c ≤ n) (h1 : n ≤ cap) (h2 : cap ≤ maxLen) : Ints w (.slice (some ⟨b, c, none⟩) (n - c) (cap - c)) (xs.drop c) := by
  unfold Ints at h ⊢
  rw [hl] at h
  have := Rd.part h c (n - c) (cap - c) (by omega) (by omega) (by omega)
  rw [Nat.zero_add] at this
  rw [List.length_drop, hl]
  exact this.congr fun j hj => by simp [iv, List.getD_eq_getElem?_getD]

end Go.Proofs.YtlbflckoodjokaaGreat

namespace Go.Proofs.YtlbflckoodjokaaGreat
set_option linter.all false
open Go.RowKit

/-- a string -/
def strOk (s : List Int) : Bool := decide (1 ≤ s.length ∧ s.length ≤ 7 ∧ ∀ x ∈ s, x = 0 ∨ x = 1)
/-- the rows of the first i places -/
def spR (s : List Int) : Nat → List (List Int)
  | 0 => []
  | i + 1 => if s.getD i 0 = 0 then spR s i else spR s i ++ [unitRow s.length i]
/-- the free places of row r with the pivot i, up to column j -/
def spG (s : List Int) (r i j : Nat) : List Nat := ((List.range j).filter fun (c : Nat) => decide (i < c) && decide (s.getD c 0 = 0)).map fun (c : Nat) => r * s.length + c
def spF (s : List Int) : Nat → List Nat
  | 0 => []
  | i + 1 => if s.getD i 0 = 0 then spF s i else spF s i ++ spG s (spR s i).length i s.length
theorem spR_zero {s : List Int} {i : Nat} (h : s.getD i 0 = 0) : spR s (i + 1) = spR s i := by rw [spR, if_pos h]
theorem spR_one {s : List Int} {i : Nat} (h : ¬ s.getD i 0 = 0) : spR s (i + 1) = spR s i ++ [unitRow s.length i] := by rw [spR, if_neg h]
theorem spF_zero {s : List Int} {i : Nat} (h : s.getD i 0 = 0) : spF s (i + 1) = spF s i := by rw [spF, if_pos h]
theorem spF_one {s : List Int} {i : Nat} (h : ¬ s.getD i 0 = 0) : spF s (i + 1) = spF s i ++ spG s (spR s i).length i s.length := by rw [spF, if_neg h]
theorem spG_start (s : List Int) (r i : Nat) : spG s r i (i + 1) = [] := by
  unfold spG
  rw [List.filter_eq_nil_iff.2 ?_]; rfl
  intro c hc
  have := List.mem_range.1 hc
  simp; intro h2; omega
theorem spG_no (s : List Int) (r i j : Nat) (h : ¬ s.getD j 0 = 0) : spG s r i (j + 1) = spG s r i j := by
  unfold spG; rw [List.range_succ, List.filter_append]
  have e : List.filter (fun (c : Nat) => decide (i < c) && decide (s.getD c 0 = 0)) [j] = [] := by
    rw [List.filter_cons, if_neg (by rw [decide_eq_false h]; simp)]; rfl
  rw [e, List.append_nil]
theorem spG_yes (s : List Int) (r i j : Nat) (h1 : i < j) (h : s.getD j 0 = 0) : spG s r i (j + 1) = spG s r i j ++ [r * s.length + j] := by
  unfold spG; rw [List.range_succ, List.filter_append]
  have e : List.filter (fun (c : Nat) => decide (i < c) && decide (s.getD c 0 = 0)) [j] = [j] := by
    rw [List.filter_cons, if_pos (by rw [decide_eq_true h1, decide_eq_true h]; rfl)]; rfl
  rw [e]; simp
theorem spG_len (s : List Int) (r i j : Nat) : (spG s r i j).length ≤ j := by
  unfold spG
  rw [List.length_map]
  exact Nat.le_trans (List.length_filter_le _ _) (by simp)
theorem spR_len (s : List Int) : ∀ i, (spR s i).length ≤ i
  | 0 => Nat.le_refl _
  | i + 1 => by
    have := spR_len s i
    unfold spR; split
    · omega
    · rw [List.length_append]; simp; omega
theorem spF_len (s : List Int) (h7 : s.length ≤ 7) : ∀ i, (spF s i).length ≤ i * 7
  | 0 => Nat.le_refl _
  | i + 1 => by
    have := spF_len s h7 i
    unfold spF; split
    · omega
    · have h2 := spG_len s (spR s i).length i s.length
      rw [List.length_append]; omega
theorem spR_flat (s : List Int) : ∀ i, (spR s i).flatten.length = (spR s i).length * s.length
  | 0 => by simp [spR]
  | i + 1 => by
    have := spR_flat s i
    unfold spR; split
    · exact this
    · rw [List.flatten_append, List.length_append, this, List.length_append, List.length_singleton, Nat.succ_mul]
      simp [unitRow_length]
theorem spF_mem (s : List Int) : ∀ i, ∀ t ∈ spF s i, t < (spR s i).length * s.length
  | 0 => fun t h => absurd h (by simp [spF])
  | i + 1 => fun t h => by
    have ih := spF_mem s i
    by_cases e : s.getD i 0 = 0
    · rw [spF_zero e] at h; rw [spR_zero e]; exact ih t h
    · rw [spF_one e] at h
      rw [spR_one e, List.length_append, List.length_singleton, Nat.succ_mul]
      rcases List.mem_append.1 h with h | h
      · have := ih t h; omega
      · unfold spG at h
        obtain ⟨c, hc, rfl⟩ := List.mem_map.1 h
        have := List.mem_range.1 (List.mem_filter.1 hc).1
        omega
theorem unitRow_nat (n i : Nat) : unitRow n (i : Int) = (List.range n).map fun (j : Nat) => if (j : Int) = (i : Int) then 1 else 0 := rfl

/-- all spaces with a string -/
def spMs (p : Int) (s : List Int) : List Mx × Bool := if primeOk p && strOk s then fillB p (spR s s.length).length s.length (spR s s.length).flatten (spF s s.length) else ([], false)
theorem spMs_no {p : Int} {s : List Int} (h : primeOk p = false ∨ strOk s = false) : spMs p s = ([], false) := by
  unfold spMs; rcases h with h | h <;> simp [h]
theorem spMs_yes {p : Int} {s : List Int} (h : primeOk p = true) (h2 : strOk s = true) : spMs p s = fillB p (spR s s.length).length s.length (spR s s.length).flatten (spF s s.length) := by
  unfold spMs; simp [h, h2]
theorem spR_49 {s : List Int} (h7 : s.length ≤ 7) : (spR s s.length).flatten.length ≤ 49 := by
  rw [spR_flat]
  have := spR_len s s.length
  exact Nat.le_trans (Nat.mul_le_mul (Nat.le_trans this h7) h7) (by omega)
theorem spMs_len (p : Int) (s : List Int) : preM (spMs p s).1 (spMs p s).1.length ≤ 1000000 := by
  unfold spMs
  split
  · rename_i h
    simp only [Bool.and_eq_true] at h
    obtain ⟨_, h7, _⟩ := of_decide_eq_true h.2
    exact fillB_len _ _ _ _ _ (spR_49 h7)
  · simp [preM]

/-! ### strings, as both sides look at them -/
theorem isSize_any (n : Int) (w : World) :
    Calls Tryz.prog 52 #[.int .i64 n] w fun e w' => e = .returned (.bool (decide (1 ≤ n ∧ n ≤ 7))) ∧ w = w' := by
  go_enter Tryz.func52, Tryz.ntmps52
  by_cases h1 : 1 ≤ n
  · by_cases h2 : n ≤ 7
    · go_wp2
      go_ret
      exact ⟨ret_bool (by simp [h1, h2]), rfl⟩
    · go_wp2
      go_ret
      exact ⟨ret_bool (by simp [h1, h2]), rfl⟩
  · go_wp2
    go_ret
    exact ⟨ret_bool (by simp; omega), rfl⟩

theorem strOk_take {s : List Int} (h : ∀ k, k < s.length → s.getD k 0 = 0 ∨ s.getD k 0 = 1) : ∀ x ∈ s, x = 0 ∨ x = 1 := by
  intro x hx
  obtain ⟨k, hk, rfl⟩ := List.getElem_of_mem hx
  have := h k hk
  simpa [List.getD_eq_getElem?_getD, hk] using this
theorem strOk_bad {s : List Int} {k : Nat} (hk : k < s.length) (h0 : ¬ s.getD k 0 = 0) (h1 : ¬ s.getD k 0 = 1) : strOk s = false := by
  unfold strOk
  refine decide_eq_false ?_
  rintro ⟨_, _, h⟩
  have := h (s.getD k 0) (getD_mem hk)
  omega

end Go.Proofs.YtlbflckoodjokaaGreat

namespace Go.Proofs.YtlbflckoodjokaaGreat
set_option linter.all false
open Go.RowKit

/-- how many are left of the first n without the zeros at their end -/
def shN (xs : List Int) : Nat → Nat
  | 0 => 0
  | n + 1 => if xs.getD n 0 = 0 then shN xs n else n + 1
theorem shN_le (xs : List Int) : ∀ n, shN xs n ≤ n
  | 0 => Nat.le_refl _
  | n + 1 => by
    rw [shN]
    split
    · exact Nat.le_succ_of_le (shN_le xs n)
    · exact Nat.le_refl _
def shL (xs : List Int) : List Int := xs.take (shN xs xs.length)
theorem OwnF.made1 (w : World) (T : TypeId) (x : Value) : OwnF (w.alloc (.cells #[x] T)) w.heap.size (w.heap.size + 1) T (.slice (some ⟨w.heap.size, 0, none⟩) 1 1) 1 (fun _ => x) :=
  OwnF.mk' ⟨#[x], heap_alloc_top _ _, rfl, fun j hj => by obtain rfl : j = 0 := by omega
                                                          rfl⟩ (Nat.le_refl _) (Nat.lt_succ_self _) (Nat.le_refl _) (by unfold maxLen; omega) fun _ _ => rfl

/-! ### the shape of a string -/

def ssZ (t : List Int) : Nat → Nat
  | 0 => 0
  | i + 1 => if t.getD i 0 = 0 then ssZ t i + 1 else ssZ t i
def ssR (t : List Int) : Nat → List Int
  | 0 => []
  | i + 1 => if t.getD i 0 = 0 then ssR t i else (ssZ t i : Int) :: ssR t i
theorem ssZ_le (t : List Int) : ∀ i, ssZ t i ≤ i
  | 0 => Nat.le_refl _
  | i + 1 => by
    have := ssZ_le t i
    rw [ssZ]
    split <;> omega
theorem ssR_len (t : List Int) : ∀ i, (ssR t i).length ≤ i
  | 0 => Nat.le_refl _
  | i + 1 => by
    have := ssR_len t i
    rw [ssR]
    split
    · omega
    · rw [List.length_cons]; omega
theorem OwnI.cons1 {T : TypeId} {w : World} {lo hi n : Nat} {v : Value} {out : List Int} {x : Int} (hn : n = out.length) (h : OwnF w lo hi T v (1 + n) (fun j => if j < 1 then .int .i64 x else iv out (j - 1))) : OwnI T w lo hi v (x :: out) := by
  subst hn
  refine OwnF.ints ?_
  rw [List.length_cons, Nat.add_comm]
  refine h.congr fun j hj => ?_
  by_cases e : j = 0
  · subst e; rfl
  · rw [if_neg (by omega)]
    obtain ⟨i, rfl⟩ : ∃ i, j = i + 1 := ⟨j - 1, by omega⟩
    rfl

/-! ### what a shape leaves of its box -/

def duR (xs : List Int) (r c : Nat) : List Int := (List.range r).map fun b => (c : Int) - (r : Int) - xs.getD (r - 1 - b) 0
theorem duR_length (xs : List Int) (r c : Nat) : (duR xs r c).length = r := by simp [duR]
theorem duR_getD {xs : List Int} {r c b : Nat} (h : b < r) : (duR xs r c).getD b 0 = (c : Int) - (r : Int) - xs.getD (r - 1 - b) 0 := by simp [duR, List.getD_eq_getElem?_getD, h]
def duP (xs : List Int) (r c k : Nat) : List Int := (duR xs r c).take k
theorem duP_length {xs : List Int} {r c k : Nat} (h : k ≤ r) : (duP xs r c k).length = k := by simp [duP, duR_length]; omega
theorem duP_succ {xs : List Int} {r c k : Nat} (h : k < r) : duP xs r c (k + 1) = duP xs r c k ++ [(c : Int) - (r : Int) - xs.getD (r - 1 - k) 0] := by
  have hk : k < (duR xs r c).length := by rw [duR_length]; exact h
  unfold duP
  rw [List.take_succ, List.getElem?_eq_getElem hk, Option.toList, ← getD_lt hk, duR_getD h]
theorem rowOf_s2 (v : Value) (xs : List Int) (i : Nat) (s : Int) (hs : s = xs.getD i 0) (hi : i ≤ 1000000) (w : World) (h : Ints w v xs) :
    Calls Tryz.prog 41 #[v, .int .i64 (i : Int)] w fun e w' => e = .returned (.int .i64 s) ∧ Qt w w' := by
  rw [hs]
  exact rowOf_any v xs i w h hi

/-! ### one shape in another -/

def cnB (a b : List Int) : Bool := shOk a && shOk b && decide (b.length ≤ a.length) && decide (∀ i, i < b.length → b.getD i 0 ≤ a.getD i 0)
theorem cnB_no1 {a b : List Int} (h : shOk a = false) : cnB a b = false := by simp [cnB, h]
theorem cnB_no2 {a b : List Int} (h : shOk b = false) : cnB a b = false := by simp [cnB, h]
theorem cnB_no3 {a b : List Int} (h : ¬ b.length ≤ a.length) : cnB a b = false := by simp [cnB, h]
theorem cnB_no4 {a b : List Int} {i : Nat} (hi : i < b.length) (h : ¬ b.getD i 0 ≤ a.getD i 0) : cnB a b = false := by
  unfold cnB
  rw [show decide (∀ i, i < b.length → b.getD i 0 ≤ a.getD i 0) = false from decide_eq_false fun e => h (e i hi), Bool.and_false]
theorem cnB_yes {a b : List Int} (h1 : shOk a = true) (h2 : shOk b = true) (h3 : b.length ≤ a.length) (h4 : ∀ i, i < b.length → b.getD i 0 ≤ a.getD i 0) : cnB a b = true := by
  unfold cnB
  rw [h1, h2, decide_eq_true h3, decide_eq_true h4]; rfl

end Go.Proofs.YtlbflckoodjokaaGreat

namespace Go.Proofs.YtlbflckoodjokaaGreat
set_option linter.all false
open Go.RowKit

/-- the rows of a shape in a box -/
theorem bx_facts {xs : List Int} {r c : Nat} (h : bxOk xs r c = true) (hrc : r ≤ c) : ∀ i, i < r → 0 ≤ xs.getD i 0 ∧ xs.getD i 0 ≤ (c : Int) - (r : Int) := by
  unfold bxOk at h
  simp only [Bool.and_eq_true, decide_eq_true_eq] at h
  obtain ⟨⟨h1, h2⟩, h3⟩ := h
  obtain ⟨hl, hs⟩ := shOk_facts h1
  have hmon : ∀ i, i < xs.length → xs.getD i 0 ≤ xs.getD 0 0 := by
    intro i
    induction i with
    | zero => exact fun _ => Int.le_refl _
    | succ i ih =>
      intro hi
      have a := ih (by omega)
      have b := (hs (i + 1) hi).2.2 (by omega)
      rw [Nat.add_sub_cancel] at b
      omega
  intro i hi
  by_cases e : i < xs.length
  · have a := hmon i e
    have b := (hs i e).1
    omega
  · have : xs.getD i 0 = 0 := by simp [List.getD_eq_getElem?_getD, Nat.le_of_not_lt e]
    rw [this]
    omega
theorem l4At_s (v : Value) (xs : List Int) (i : Nat) (s : Int) (hs : s = xs.getD i 0) (hi : i ≤ 1000000) (w : World) (h : Ints w v xs) :
    Calls Tryz.prog 30 #[v, .int .i64 (i : Int)] w fun e w' => e = .returned (.int .i64 s) ∧ Below w.heap.size w w' := by
  rw [hs]
  exact (l4At_any v xs i w h hi).mono fun e w' ⟨r1, r2⟩ => ⟨r1, r2.below _⟩
theorem rowOf_s (v : Value) (xs : List Int) (i : Nat) (s : Int) (hs : s = xs.getD i 0) (hi : i ≤ 1000000) (w : World) (h : Ints w v xs) :
    Calls Tryz.prog 41 #[v, .int .i64 (i : Int)] w fun e w' => e = .returned (.int .i64 s) ∧ Below w.heap.size w w' := by
  rw [hs]
  exact (rowOf_any v xs i w h hi).mono fun e w' ⟨r1, r2⟩ => ⟨r1, r2.below _⟩

end Go.Proofs.YtlbflckoodjokaaGreat

namespace Go.Proofs.YtlbflckoodjokaaGreat
set_option linter.all false
open Go.RowKit

/-- the numbers at the first i places -/
def gpA (sh : List Int) (k i : Nat) : List Int := (List.range i).map fun (t : Nat) => (t : Int) + sh.getD (k - 1 - t) 0
def gpB (A : List Int) (n : Nat) : List Int := ((List.range n).filter fun (x : Nat) => decide (¬ (x : Int) ∈ A)).map fun (x : Nat) => (x : Int)
def gpW (sh : List Int) (k n : Nat) : List Int := gpA sh k k ++ gpB (gpA sh k k) n
theorem gpA_length (sh : List Int) (k i : Nat) : (gpA sh k i).length = i := by simp [gpA]
theorem gpA_succ (sh : List Int) (k i : Nat) : gpA sh k (i + 1) = gpA sh k i ++ [(i : Int) + sh.getD (k - 1 - i) 0] := by simp [gpA, List.range_succ]
theorem gpA_getD {sh : List Int} {k i t : Nat} (h : t < i) : (gpA sh k i).getD t 0 = (t : Int) + sh.getD (k - 1 - t) 0 := by simp [gpA, List.getD_eq_getElem?_getD, h]
theorem gpB_len (A : List Int) (n : Nat) : (gpB A n).length ≤ n := by
  unfold gpB
  rw [List.length_map]
  exact Nat.le_trans (List.length_filter_le _ _) (by simp)
theorem gpB_no {A : List Int} {n : Nat} (h : (n : Int) ∈ A) : gpB A (n + 1) = gpB A n := by
  unfold gpB
  rw [List.range_succ, List.filter_append, List.map_append]
  simp [h]
theorem gpB_yes {A : List Int} {n : Nat} (h : ¬ (n : Int) ∈ A) : gpB A (n + 1) = gpB A n ++ [(n : Int)] := by
  unfold gpB
  rw [List.range_succ, List.filter_append, List.map_append]
  simp [h]

set_option maxRecDepth 100000 in
set_option maxHeartbeats 4000000 in
theorem GrassmannianPerm_any (v : Value) (sh : List Int) (k n : Nat) (w : World) (h : Ints w v sh) (hx : bxOk sh k n = true) (hkn : k ≤ n) (hn1 : 1 ≤ n) (hn7 : n ≤ 7) :
    Calls Tryz.prog 22 #[v, .int .i64 (k : Int), .int .i64 (n : Int)] w (RetI w (gpW sh k n)) := by
  have Hh := Lib.hid h
  have Hx := Lib.hid hx
  have Hr := Lib.hid (bx_facts hx hkn)
  obtain ⟨p, cap, rfl, ⟨hx1, hx2⟩, hxc⟩ := h
  unfold maxLen at hx2
  clear hx hxc
  go_enter Tryz.func22, Tryz.ntmps22
  go_wp2_with fail
  refine (IsInBox_any _ sh k n _ Hh.out hkn hn1 hn7).mono ?_
  rintro e w1 ⟨rfl, hq1⟩
  rw [Hx.out]
  have HQ1 := Lib.hid hq1
  have hs1 := hq1.size
  clear hq1
  go_wp2_with fail
  go_loopg [7, 8, 17] k (fun g s7 s8 s17 wr => ∃ i : Nat, i ≤ k ∧ g = k - i ∧ s17 = .int .i64 i ∧ Hid (OwnI 3 wr w.heap.size wr.heap.size s7 (gpA sh k i)) ∧ Hid (Below w.heap.size w wr))
  case atStart =>
    refine ⟨0, Nat.zero_le _, rfl, rfl, ?_, Lib.hid ((HQ1.out.below _).trans ((below_alloc w1 _).mono (by omega)))⟩
    have := (OwnF.ints (xs := []) (OwnF.made0 w1 3 (iv []))).mono (lo' := w.heap.size) (hi' := (w1.alloc (.cells #[] 3)).heap.size) (by omega) (by simp)
    rw [hs1] at this
    exact Lib.hid this
  case round =>
    obtain ⟨i, hi, rfl, rfl, ho, hb⟩ := hrel
    have hsr := hb.out.size
    by_cases hlt : i < k
    · have hlt2 : (i : Int) < (k : Int) := by omega
      obtain ⟨j, hj⟩ : ∃ j, j = k - 1 - i := ⟨_, rfl⟩
      have hji : (k : Int) - 1 - (i : Int) = (j : Int) := by omega
      obtain ⟨s, hs⟩ : ∃ s, s = sh.getD j 0 := ⟨_, rfl⟩
      have hsb := Hr.out j (by omega)
      rw [← hs] at hsb
      have Hs := Lib.hid hs
      have Hj := Lib.hid hj
      have Hji := Lib.hid hji
      have Hn := Lib.hid (show gpA sh k (i + 1) = gpA sh k i ++ [(i : Int) + s] by rw [gpA_succ, hs, hj])
      obtain ⟨q7, k7, e7, _, _⟩ := ho.out.shape
      rw [gpA_length] at e7
      subst e7
      have hofn := ho.out.fn
      rw [gpA_length] at hofn
      have Ho := Lib.hid hofn
      have Hb1 := Lib.hid (show i + 1 ≤ maxLen by unfold maxLen; omega)
      have Hb2 := Lib.hid (show (i + 1) * 8 ≤ 140737488355328 by omega)
      clear hs hj hji ho hofn
      go_wp2_with fail
      rw [Hji.out]
      refine (rowOf_s2 _ sh j s Hs.out (by have := Hj.out; omega) _ (Hh.out.below hb.out)).mono ?_
      rintro e w2 ⟨rfl, hq⟩
      have HQ := Lib.hid hq
      have hsq := hq.size
      clear hq
      go_wp2_with (at_builtin; go_must (refine wpList_append_F rfl (.tmp 20) (.tmp 29) 22 rfl 3 (.int .i64 0) 8 Tryz.underlying22 info_int rfl w.heap.size wr.heap.size _ i (iv (gpA sh k i)) rfl ((Ho.out.below (HQ.out.below _)).below (below_alloc _ _)) (by rw [size_alloc]; omega) (by rw [size_alloc]; omega) _ 1 _ rfl (rd_one _ _ _ HQ.out.size.symm) (fun j _ => rfl) Hb1.out Hb2.out ?_; intro v2 w3 ho2 hg2))
      go_roundg (k - (i + 1))
      case measure => omega
      case rel =>
        have hbx : Below w.heap.size wr w3 := ((HQ.out.below _).trans ((below_alloc w2 _).mono (by omega))).trans (grownBy_below hg2 Ho.out.blocks (Nat.le_refl _) (by rw [size_alloc]; omega))
        refine ⟨i + 1, by omega, rfl, by go_num, ?_, Lib.hid (hb.out.trans hbx)⟩
        rw [Hn.out]
        exact Lib.hid (OwnI.snoc1 (by rw [gpA_length]; exact ho2))
    · obtain rfl : i = k := by omega
      have hlt2 : ¬ (i : Int) < (i : Int) := by omega
      obtain ⟨A, hA⟩ : ∃ A, A = gpA sh i i := ⟨_, rfl⟩
      have hAl : A.length = i := by rw [hA, gpA_length]
      rw [← hA] at ho
      have HA := Lib.hid hA
      have HAl := Lib.hid hAl
      have Ho0 := Lib.hid ho.out
      obtain ⟨q7, k7, e7, _, _⟩ := ho.out.shape
      rw [hAl] at e7
      subst e7
      have Hb0 := Lib.hid hb.out
      clear hA hAl ho hb
      go_wp2_with fail
      obtain ⟨wa, rfl⟩ : ∃ x : World, x = wr := ⟨_, rfl⟩
      go_loopg [7, 9, 33] n (fun g s7 s9 s33 wr => ∃ x : Nat, x ≤ n ∧ g = n - x ∧ s33 = .int .i64 x ∧ Hid (OwnI 3 wr w.heap.size wr.heap.size s7 (A ++ gpB A x)) ∧ Hid (Below w.heap.size w wr))
      case atStart => exact ⟨0, Nat.zero_le _, rfl, rfl, by rw [show A ++ gpB A 0 = A by simp [gpB]]; exact Ho0, Hb0⟩
      case round =>
        obtain ⟨x, hxn, rfl, rfl, ho, hb⟩ := hrel
        have hsr := hb.out.size
        obtain ⟨L, hL⟩ : ∃ L, L = A ++ gpB A x := ⟨_, rfl⟩
        have hLl : L.length ≤ 14 := by rw [hL, List.length_append, HAl.out]; have := gpB_len A x; omega
        have hLi : i ≤ L.length := by rw [hL, List.length_append, HAl.out]; omega
        have hLt : L.take i = A := by rw [hL, List.take_append_of_le_length (by rw [HAl.out]; exact Nat.le_refl _), List.take_of_length_le (by rw [HAl.out]; exact Nat.le_refl _)]
        rw [← hL] at ho
        have HL := Lib.hid hL
        have Ho := Lib.hid ho.out
        have HLt := Lib.hid hLt
        obtain ⟨N, hN⟩ : ∃ N, N = L.length := ⟨_, rfl⟩
        obtain ⟨q8, k8, e8, hc8, hm8⟩ := ho.out.shape
        rw [← hN] at e8 hc8 hLl hLi
        unfold maxLen at hm8
        subst e8
        have hI := ho.out.ints
        rw [hN] at hI
        have HI := Lib.hid (show Ints wr (.slice q8 i k8) A by rw [← HLt.out]; exact ints_takeP hI (by rw [← hN]; exact hLi))
        have hofn := ho.out.fn
        rw [← hN] at hofn
        have Hof := Lib.hid hofn
        have HN := Lib.hid hN
        clear hL hLt ho hI hofn hN
        by_cases hxlt : x < n
        · have hx3 : (x : Int) < (n : Int) := by omega
          have hi3 : (i : Int) ≤ (k8 : Int) := by omega
          go_wp2_with fail
          refine (contains_any _ A x _ HI.out).mono ?_
          rintro e w2 ⟨rfl, hq⟩
          have hsq := hq.size
          by_cases hc : (x : Int) ∈ A
          · rw [decide_eq_true hc]
            have Hn := Lib.hid (show A ++ gpB A (x + 1) = L by rw [gpB_no hc, HL.out])
            have Ho2 := Lib.hid (Ho.out.below (hq.below _))
            have Hb2 := Lib.hid (hb.out.trans (hq.below _))
            clear hc hq
            go_wp2_with fail
            go_roundg (n - (x + 1))
            case measure => omega
            case rel => exact ⟨x + 1, by omega, rfl, by go_num, by rw [Hn.out, hsq]; exact Ho2, Hb2⟩
          · rw [decide_eq_false hc]
            have Hn := Lib.hid (show A ++ gpB A (x + 1) = L ++ [(x : Int)] by rw [gpB_yes hc, ← List.append_assoc, HL.out])
            have HQ := Lib.hid hq
            have Hc1 := Lib.hid (show N + 1 ≤ maxLen by unfold maxLen; omega)
            have Hc2 := Lib.hid (show (N + 1) * 8 ≤ 140737488355328 by omega)
            clear hc hq
            go_wp2_with (at_builtin; go_must (refine wpList_append_F rfl (.tmp 42) (.tmp 44) 22 rfl 3 (.int .i64 0) 8 Tryz.underlying22 info_int rfl w.heap.size wr.heap.size _ N (iv L) rfl ((Hof.out.below (HQ.out.below _)).below (below_alloc _ _)) (by rw [size_alloc]; omega) (by rw [size_alloc]; omega) _ 1 _ rfl (rd_one _ _ _ HQ.out.size.symm) (fun j _ => rfl) Hc1.out Hc2.out ?_; intro v2 w3 ho2 hg2))
            go_roundg (n - (x + 1))
            case measure => omega
            case rel =>
              have hbx : Below w.heap.size wr w3 := ((HQ.out.below _).trans ((below_alloc w2 _).mono (by omega))).trans (grownBy_below hg2 Hof.out.blocks (Nat.le_refl _) (by rw [size_alloc]; omega))
              refine ⟨x + 1, by omega, rfl, by go_num, ?_, Lib.hid (hb.out.trans hbx)⟩
              rw [Hn.out]
              exact Lib.hid (OwnI.snoc1 (by rw [← HN.out]; exact ho2))
        · obtain rfl : x = n := by omega
          have hx3 : ¬ (x : Int) < (x : Int) := by omega
          go_wp2_with fail
          go_ret
          refine ⟨_, rfl, ?_, hb.out⟩
          unfold gpW
          rw [← HA.out, ← HL.out]
          exact Ho.out

end Go.Proofs.YtlbflckoodjokaaGreat

namespace Go.Proofs.YtlbflckoodjokaaGreat
set_option linter.all false
open Go.RowKit

/-- the shapes that begin with some parts, with at most so many parts more, none greater than m -/
def shs : Nat → Nat → List Int → List (List Int)
  | 0, _, front => [front]
  | r + 1, m, front => front :: (List.range m).flatMap fun (n : Nat) => shs r (n + 1) (front ++ [((n + 1 : Nat) : Int)])
theorem shs_len : ∀ (r m : Nat) (front : List Int), (shs r m front).length ≤ (m + 1) ^ r
  | 0, m, front => by simp [shs]
  | r + 1, m, front => by
    rw [shs, List.length_cons]
    have key : ∀ k, k ≤ m → ((List.range k).flatMap fun (n : Nat) => shs r (n + 1) (front ++ [((n + 1 : Nat) : Int)])).length ≤ k * (m + 1) ^ r := by
      intro k
      induction k with
      | zero => intro _; simp
      | succ k ih =>
        intro hk
        rw [flatMap_snoc, List.length_append, Nat.succ_mul]
        have a := ih (by omega)
        have b := shs_len r (k + 1) (front ++ [((k + 1 : Nat) : Int)])
        have c : (k + 1 + 1) ^ r ≤ (m + 1) ^ r := Nat.pow_le_pow_left (by omega) r
        omega
    have a := key m (Nat.le_refl m)
    have b : 1 ≤ (m + 1) ^ r := Nat.one_le_pow _ _ (by omega)
    rw [Nat.pow_succ, Nat.mul_add]
    rw [Nat.mul_comm ((m + 1) ^ r) m]
    omega
theorem shs_len' (r m k : Nat) (front : List Int) (hk : k ≤ m) : ((List.range k).flatMap fun (n : Nat) => shs r (n + 1) (front ++ [((n + 1 : Nat) : Int)])).length ≤ k * (m + 1) ^ r := by
  induction k with
  | zero => simp
  | succ k ih =>
    rw [flatMap_snoc, List.length_append, Nat.succ_mul]
    have a := ih (by omega)
    have b := shs_len r (k + 1) (front ++ [((k + 1 : Nat) : Int)])
    have c : (k + 1 + 1) ^ r ≤ (m + 1) ^ r := Nat.pow_le_pow_left (by omega) r
    omega

theorem grown_after {w w1 w' : World} {b : Option Nat} (hb : Below w.heap.size w w1) (hg : w1.grownBy w' b) : w.grownBy w' b :=
  ⟨hg.os.trans hb.os, hg.tape.trans hb.tape, hg.output.trans hb.output, Nat.le_trans hb.size hg.size, fun k hk hne => (hg.block k (Nat.lt_of_lt_of_le hk hb.size) hne).trans (hb.block k hk)⟩
theorem grown_chain {w w1 w' : World} {a b : Option Nat} (h1 : w.grownBy w1 a) (h2 : w1.grownBy w' b) (hab : ∀ k, b = some k → a = some k ∨ w.heap.size ≤ k) : w.grownBy w' a :=
  ⟨h2.os.trans h1.os, h2.tape.trans h1.tape, h2.output.trans h1.output, Nat.le_trans h1.size h2.size, fun k hk hne => (h2.block k (Nat.lt_of_lt_of_le hk h1.size) (fun e => by
    rcases hab k e.symm with h | h
    · exact hne h.symm
    · omega)).trans (h1.block k hk hne)⟩
theorem grown_then {w w1 w' : World} {a : Option Nat} (h1 : w.grownBy w1 a) (hb : Below w1.heap.size w1 w') : w.grownBy w' a :=
  ⟨hb.os.trans h1.os, hb.tape.trans h1.tape, hb.output.trans h1.output, Nat.le_trans h1.size hb.size, fun k hk hne => (hb.block k (Nat.lt_of_lt_of_le hk h1.size)).trans (h1.block k hk hne)⟩
/-- a row keeps what it holds where another slice grew -/
theorem OwnI.grownBy {Ts Ti : TypeId} {w w' : World} {lo mid lo1 hi1 n : Nat} {lv fv : Value} {f : Nat → Value} {xs : List Int} (h : OwnI Ti w lo1 hi1 fv xs) (hg : w.grownBy w' lv.ownBlock) (hl : OwnF w lo mid Ts lv n f) (hT : Ts ≠ Ti) : OwnI Ti w' lo1 hi1 fv xs :=
  ⟨ownsRow_of_block h.1 fun k hk => hg.block k (Own.block h hk).2.2 fun e => own_types hl h hT e.symm hk, h.2⟩

/-- a row of its own is put behind the others, its block told apart outright -/
theorem OwnII.snocD {Ts Ti : TypeId} {w w' : World} {lo hi : Nat} {v v' x : Value} {rows : List (List Int)} {xs : List Int} {f : Nat → Value} (g1 : OwnF w lo hi Ts v rows.length f) (g2 : ∀ i, i < rows.length → OwnI Ti w lo hi (f i) (rows.getD i []))
    (g3 : ∀ i j, i < j → j < rows.length → ∀ k, (f i).ownBlock = some k → (f j).ownBlock ≠ some k) (hx : OwnI Ti w lo hi x xs) (hd : ∀ i, i < rows.length → ∀ k, (f i).ownBlock = some k → x.ownBlock ≠ some k) (hT : Ts ≠ Ti)
    (hg : w.grownBy w' v.ownBlock) (hsz : hi ≤ w'.heap.size)
    (hv : OwnF w' lo w'.heap.size Ts v' (rows.length + 1) (fun j => if j < rows.length then f j else x)) : OwnII Ts Ti w' lo w'.heap.size v' (rows ++ [xs]) := by
  refine ⟨_, by rw [List.length_append]; exact hv, fun i hi => ?_, fun i j hij hj k hk => ?_⟩
  · rw [List.length_append] at hi
    simp only [List.length_singleton] at hi
    by_cases hlt : i < rows.length
    · have e : (rows ++ [xs]).getD i [] = rows.getD i [] := by simp [List.getD_eq_getElem?_getD, List.getElem?_append_left hlt]
      simp only [hlt, if_true]
      rw [e]
      exact ((g2 i hlt).grownBy hg g1 hT).mono (Nat.le_refl _) hsz
    · have e : (rows ++ [xs]).getD i [] = xs := by
        have : i = rows.length := by omega
        subst this
        simp [List.getD_eq_getElem?_getD]
      simp only [hlt, if_false]
      rw [e]
      exact (hx.grownBy hg g1 hT).mono (Nat.le_refl _) hsz
  · rw [List.length_append] at hj
    simp only [List.length_singleton] at hj
    by_cases hlt : j < rows.length
    · simp only [hlt, if_true]
      simp only [show i < rows.length by omega, if_true] at hk
      exact g3 i j hij hlt k hk
    · simp only [hlt, if_false]
      simp only [show i < rows.length by omega, if_true] at hk
      exact hd i (by omega) k hk

/-- what l4Shapes does -/
def L4Q (w : World) (lo : Nat) (lv : Value) (L : List (List Int)) (e : Ending) (w' : World) : Prop :=
  ∃ v', e = .returned v' ∧ OwnII 22 3 w' lo w'.heap.size v' L ∧ w.grownBy w' lv.ownBlock ∧ ∀ b, v'.ownBlock = some b → lv.ownBlock = some b ∨ w.heap.size ≤ b

end Go.Proofs.YtlbflckoodjokaaGreat
