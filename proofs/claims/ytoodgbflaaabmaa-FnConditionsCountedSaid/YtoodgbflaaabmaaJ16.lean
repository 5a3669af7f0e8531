/-
  Rows, each in a block of its own, while one of them grows in its own block.
  The rows and the free places of the spaces with a string: plain; strings.
  SpacesWith: all spaces with a string.
-/
import Derived.Test.YtoodgbflaaabmaaJ9
import Derived.Lib.OwnKind
import Derived.Test.YtoodgbflaaabmaaJ15
namespace Go.Proofs.Ytoodgbflaaabmaa
set_option linter.all false
open Go.RowKit

/-- what is owned with elements of two kinds lies in two blocks -/
theorem OwnF.apart {w : World} {lo hi lo' hi' : Nat} {T T' : TypeId} {v v' : Value} {n n' : Nat} {f f' : Nat → Value} (h : OwnF w lo hi T v n f) (h' : OwnF w lo' hi' T' v' n' f') (hT : T ≠ T') : ∀ k, v.ownBlock = some k → v'.ownBlock ≠ some k := by
  intro k h1 h2
  obtain ⟨xs, h, _⟩ := h
  obtain ⟨ys, h', _⟩ := h'
  obtain ⟨c, fz, e⟩ := Lib.ownsRow_kind h.1 k h1
  obtain ⟨c', fz', e'⟩ := Lib.ownsRow_kind h'.1 k h2
  rw [e] at e'
  injection e' with e'
  injection e' with _ e' _
  exact hT e'

theorem OwnI.grownI {w w' : World} {lo hi : Nat} {T : TypeId} {v u : Value} {xs : List Int} (h : OwnI T w lo hi v xs) (hg : w.grownBy w' u.ownBlock) (hne : ∀ k, v.ownBlock = some k → u.ownBlock ≠ some k) : OwnI T w' lo hi v xs :=
  ⟨ownsRow_of_block h.1 fun k hk => hg.block k (Own.block h hk).2.2 fun e => hne k hk e.symm, h.2⟩
/-- rows, each in a block of its own -/
def RowsN (w : World) (lo hi N : Nat) (f : Nat → Value) (L : Nat → List Int) : Prop :=
  (∀ i, i < N → OwnI 3 w lo hi (f i) (L i)) ∧ ∀ i j, i < N → j < N → i ≠ j → ∀ b, (f i).ownBlock = some b → (f j).ownBlock ≠ some b
theorem RowsN.mono {w : World} {lo hi hi' N : Nat} {f : Nat → Value} {L : Nat → List Int} (h : RowsN w lo hi N f L) (hh : hi ≤ hi') : RowsN w lo hi' N f L :=
  ⟨fun i hi => (h.1 i hi).mono (Nat.le_refl _) hh, h.2⟩
theorem RowsN.grown {w w' : World} {lo hi N lo' hi' n : Nat} {f g : Nat → Value} {L : Nat → List Int} {v : Value} (h : RowsN w lo hi N f L) (hv : OwnF w lo' hi' 24 v n g) (hg : w.grownBy w' v.ownBlock) : RowsN w' lo hi N f L :=
  ⟨fun i hi => OwnI.grownI (h.1 i hi) hg fun k hk => OwnF.apart (h.1 i hi).fn hv (by decide) k hk, h.2⟩
theorem RowsN.set {w w' : World} {lo hi N k : Nat} {f : Nat → Value} {L : Nat → List Int} {u : Value} {r : List Int} (h : RowsN w lo hi N f L) (hk : k < N) (hhi : hi ≤ w.heap.size) (ho : OwnI 3 w' lo w'.heap.size u r)
    (hg : w.grownBy w' (f k).ownBlock) (hn : ∀ b, u.ownBlock = some b → (f k).ownBlock = some b ∨ w.heap.size ≤ b) :
    RowsN w' lo w'.heap.size N (fun i => if i = k then u else f i) (fun i => if i = k then r else L i) := by
  have hs := hg.size
  refine ⟨fun i hi => ?_, fun i j hi hj hij b => ?_⟩
  · by_cases e : i = k
    · simp only [e, if_true]; exact ho
    · simp only [e, if_false]
      exact OwnI.mono (OwnI.grownI (h.1 i hi) hg fun b hb => (h.2 i k hi hk e b hb)) (Nat.le_refl _) (by omega)
  · by_cases e : i = k
    · subst e
      have e2 : ¬ j = i := fun e => hij e.symm
      simp only [e2, if_true, if_false]
      intro hb hb2
      rcases hn b hb with h1 | h1
      · exact h.2 i j hi hj hij b h1 hb2
      · have := OwnF.blocks (h.1 j hj).fn b hb2
        omega
    · by_cases e2 : j = k
      · subst e2
        simp only [e, if_true, if_false]
        intro hb hb2
        rcases hn b hb2 with h1 | h1
        · exact h.2 i j hi hj hij b hb h1
        · have := OwnF.blocks (h.1 i hi).fn b hb
          omega
      · simp only [e, e2, if_false]
        exact h.2 i j hi hj hij b

/-- the outer slice of what is built: still empty, wherever it lies, or owned from lo on -/
def OwnE (w : World) (lo hi : Nat) (T : TypeId) (v : Value) (n : Nat) (f : Nat → Value) : Prop := (n = 0 ∧ ∃ p, v = .slice p 0 0) ∨ OwnF w lo hi T v n f
/-- append onto it -/
theorem wpList_append_E {P : Program} {w : World} {ops : Array Oper} {rest : List Oper} {o : Oper} {a : Act} {Q : Exit → Act → World → Prop} (hgd : o.guard = none) (s x : Operand) (t : TypeId)
    (ho : o.op = .call { callee := .builtin .append, args := #[s, x], argTypes := #[t, t] })
    (e : TypeId) (z : Value) (bytes : Nat) (ht : P.underlying t = some (.slice e)) (hinfo : (P.info? e).map (fun i => (i.zero, i.size, i.bytes)) = some (some z, 1, bytes)) (hzs : z.cells.size = 1)
    (lo hi' : Nat) (v : Value) (n : Nat) (f : Nat → Value) (hs : a.eval s = v) (hown : OwnE w lo hi' e v n f) (hlo : lo ≤ w.heap.size) (hhi : hi' ≤ w.heap.size)
    (u : Value) (m : Nat) (g : Nat → Value) (hxu : a.eval x = u) (hx : Rd w u m g) (h0 : 0 < m) (h1 : ∀ j, j < m → (g j).oneCell' = true) (h63 : n + m ≤ maxLen) (hbytes : (n + m) * bytes ≤ 140737488355328)
    (h : ∀ v' w', OwnF w' lo w'.heap.size e v' (n + m) (fun j => if j < n then f j else g (j - n)) → (Below w.heap.size w w' ∨ (OwnF w lo hi' e v n f ∧ w.grownBy w' v.ownBlock)) → wpList P ops Q rest (a.put o.dst v') w') :
    wpList P ops Q (o :: rest) a w := by
  rcases hown with ⟨rfl, p, rfl⟩ | hown
  · refine wpList_append_fresh hgd s x t ho e z bytes ht hinfo hzs p hs u m g hxu hx h0 (by omega) (by simpa using hbytes) fun v' w' h2 h3 => h v' w' ?_ (.inl h3)
    rw [Nat.zero_add]
    exact (h2.mono hlo (Nat.le_refl _)).congr fun j _ => by simp
  · exact wpList_append_F hgd s x t ho e z bytes ht hinfo hzs lo hi' v n f hs hown hlo hhi u m g hxu hx h1 h63 hbytes fun v' w' h2 h3 => h v' w' h2 (.inr ⟨hown, h3⟩)
/-- what lies below lo stays -/
theorem ownE_below {w w' : World} {lo hi n : Nat} {T : TypeId} {v : Value} {f : Nat → Value} (hlo : lo ≤ w.heap.size) (h : Below w.heap.size w w' ∨ (OwnF w lo hi T v n f ∧ w.grownBy w' v.ownBlock)) : Below lo w w' := by
  rcases h with h | ⟨h, hg⟩
  · exact h.mono hlo
  · exact grownBy_below hg h.blocks (Nat.le_refl _) hlo
/-- and so do rows in blocks of their own -/
theorem RowsN.appE {w w' : World} {lo hi N lo' hi' n : Nat} {f g : Nat → Value} {L : Nat → List Int} {v : Value} (h : RowsN w lo hi N f L) (hg : Below w.heap.size w w' ∨ (OwnF w lo' hi' 24 v n g ∧ w.grownBy w' v.ownBlock)) : RowsN w' lo hi N f L := by
  rcases hg with hg | ⟨h1, h2⟩
  · exact ⟨fun i hi => (h.1 i hi).below hg, h.2⟩
  · exact h.grown h1 h2

theorem RowsN.congr {w : World} {lo hi N : Nat} {f f' : Nat → Value} {L L' : Nat → List Int} (h : RowsN w lo hi N f L) (hf : ∀ i, i < N → f' i = f i) (hL : ∀ i, i < N → L' i = L i) : RowsN w lo hi N f' L' :=
  ⟨fun i hi => by rw [hf i hi, hL i hi]; exact h.1 i hi, fun i j hi hj hij => by rw [hf i hi, hf j hj]; exact h.2 i j hi hj hij⟩
theorem RowsN.below {w w' : World} {lo hi N : Nat} {f : Nat → Value} {L : Nat → List Int} (h : RowsN w lo hi N f L) (hb : Below w.heap.size w w') : RowsN w' lo hi N f L :=
  ⟨fun i hi => (h.1 i hi).below hb, h.2⟩
/-- one row more, made later -/
theorem RowsN.snoc {w : World} {lo mid hi N : Nat} {f : Nat → Value} {L : Nat → List Int} {x : Value} {r : List Int} (h : RowsN w lo mid N f L) (hx : OwnI 3 w mid hi x r) (hm : lo ≤ mid) (hmh : mid ≤ hi) :
    RowsN w lo hi (N + 1) (fun i => if i < N then f i else x) (fun i => if i < N then L i else r) := by
  refine ⟨fun i hi => ?_, fun i j hi hj hij b => ?_⟩
  · by_cases e : i < N
    · simp only [e, if_true]; exact (h.1 i e).mono (Nat.le_refl _) hmh
    · simp only [e, if_false]; exact hx.mono hm (Nat.le_refl _)
  · by_cases e : i < N
    · by_cases e2 : j < N
      · simp only [e, e2, if_true]
        exact h.2 i j e e2 hij b
      · simp only [e, e2, if_true, if_false]
        intro hb hb2
        have := OwnF.blocks (h.1 i e).fn b hb
        have := OwnF.blocks hx.fn b hb2
        omega
    · by_cases e2 : j < N
      · simp only [e, e2, if_true, if_false]
        intro hb hb2
        have := OwnF.blocks (h.1 j e2).fn b hb2
        have := OwnF.blocks hx.fn b hb
        omega
      · omega
/-- two lots of rows, the second made later -/
theorem RowsN.join {w : World} {lo mid hi N M : Nat} {f g : Nat → Value} {L K : Nat → List Int} (h : RowsN w lo mid N f L) (hx : RowsN w mid hi M g K) (hm : lo ≤ mid) (hmh : mid ≤ hi) :
    RowsN w lo hi (N + M) (fun i => if i < N then f i else g (i - N)) (fun i => if i < N then L i else K (i - N)) := by
  refine ⟨fun i hi => ?_, fun i j hi hj hij b => ?_⟩
  · by_cases e : i < N
    · simp only [e, if_true]; exact (h.1 i e).mono (Nat.le_refl _) hmh
    · simp only [e, if_false]; exact (hx.1 _ (by omega)).mono hm (Nat.le_refl _)
  · by_cases e : i < N
    · by_cases e2 : j < N
      · simp only [e, e2, if_true]
        exact h.2 i j e e2 hij b
      · simp only [e, e2, if_true, if_false]
        intro hb hb2
        have := OwnF.blocks (h.1 i e).fn b hb
        have := OwnF.blocks (hx.1 (j - N) (by omega)).fn b hb2
        omega
    · by_cases e2 : j < N
      · simp only [e, e2, if_true, if_false]
        intro hb hb2
        have := OwnF.blocks (h.1 j e2).fn b hb2
        have := OwnF.blocks (hx.1 (i - N) (by omega)).fn b hb
        omega
      · simp only [e, e2, if_false]
        exact hx.2 _ _ (by omega) (by omega) (by omega) b
/-- a list of rows, taken apart -/
theorem OwnII.rowsN {w : World} {lo hi : Nat} {v : Value} {rows : List (List Int)} (h : OwnII 24 3 w lo hi v rows) : ∃ f, OwnF w lo hi 24 v rows.length f ∧ RowsN w lo hi rows.length f fun i => rows.getD i [] := by
  obtain ⟨f, h1, h2, h3⟩ := h
  refine ⟨f, h1, h2, fun i j hi hj hij b hb hb2 => ?_⟩
  rcases Nat.lt_or_gt_of_ne hij with e | e
  · exact h3 i j e hj b hb hb2
  · exact h3 j i e hi b hb2 hb
/-- .. and together -/
theorem RowsN.rd {w : World} {lo hi lo' hi' : Nat} {v : Value} {rows : List (List Int)} {f : Nat → Value} {L : Nat → List Int} (h : RowsN w lo hi rows.length f L) (hv : OwnE w lo' hi' 24 v rows.length f) (hL : ∀ i, i < rows.length → L i = rows.getD i []) : RdII w v rows := by
  refine ⟨f, ?_, fun i hi => by rw [← hL i hi]; exact (h.1 i hi).ints⟩
  rcases hv with ⟨e, p, rfl⟩ | hv
  · rw [e]
    exact ⟨p, 0, rfl, ⟨Nat.le_refl _, Nat.zero_le _⟩, fun h => absurd h (Nat.lt_irrefl _)⟩
  · exact hv.rd

/-! ### two loops: rows are put behind rows, and the second lot grows in place -/

theorem OwnE.keepB {w w' : World} {lo hi n B : Nat} {T : TypeId} {v : Value} {f : Nat → Value} (h : OwnE w lo hi T v n f) (hb : Below B w w') (hh : hi ≤ B) : OwnE w' lo hi T v n f := by
  rcases h with h | h
  · exact .inl h
  · exact .inr (h.keep fun k _ h2 _ => hb.block k (by omega))
theorem RowsN.keepB {w w' : World} {lo hi N B : Nat} {f : Nat → Value} {L : Nat → List Int} (h : RowsN w lo hi N f L) (hb : Below B w w') (hh : hi ≤ B) : RowsN w' lo hi N f L :=
  ⟨fun i hi => Own.keep (h.1 i hi) fun k _ h2 _ => hb.block k (by omega), h.2⟩

/-- one round of the first loop, put together -/
theorem RowsN.round1 {wr W w8 : World} {lo k : Nat} {fo : Nat → Value} {L : Nat → List Int} {s6 v7 : Value} {r : List Int} (hN : RowsN wr lo wr.heap.size k fo L) (hlo : lo ≤ wr.heap.size)
    (hW : Below wr.heap.size wr W) (ho7 : OwnI 3 W wr.heap.size W.heap.size v7 r)
    (hg : Below W.heap.size W w8 ∨ (OwnF W lo wr.heap.size 24 s6 k fo ∧ W.grownBy w8 s6.ownBlock)) :
    RowsN w8 lo w8.heap.size (k + 1) (fun j => if j < k then fo j else v7) (fun j => if j < k then L j else r) ∧ Below lo wr w8 := by
  have hs := hW.size
  have hb8 := ownE_below (by omega) hg
  have hs8 := hb8.size
  exact ⟨((RowsN.snoc (hN.keepB hW (Nat.le_refl _)) ho7 hlo hs).appE hg).mono hs8, (hW.mono hlo).trans hb8⟩

/-- as OwnE, and it does not lie where t lies -/
def OwnE2 (w : World) (lo hi : Nat) (T : TypeId) (v : Value) (n : Nat) (f : Nat → Value) (t : Value) : Prop := (n = 0 ∧ ∃ p, v = .slice p 0 0) ∨ (OwnF w lo hi T v n f ∧ ∀ b, v.ownBlock = some b → t.ownBlock ≠ some b)
def App2 (w w' : World) (lo hi : Nat) (T : TypeId) (v v' : Value) (n : Nat) (f : Nat → Value) (t : Value) : Prop :=
  (Below w.heap.size w w' ∧ ∀ b, v'.ownBlock = some b → w.heap.size ≤ b) ∨ (OwnF w lo hi T v n f ∧ (∀ b, v.ownBlock = some b → t.ownBlock ≠ some b) ∧ w.grownBy w' v.ownBlock ∧ ∀ b, v'.ownBlock = some b → v.ownBlock = some b ∨ w.heap.size ≤ b)
/-- append onto it -/
theorem wpList_append_E2 {P : Program} {w : World} {ops : Array Oper} {rest : List Oper} {o : Oper} {a : Act} {Q : Exit → Act → World → Prop} (hgd : o.guard = none) (s x : Operand) (t : TypeId)
    (ho : o.op = .call { callee := .builtin .append, args := #[s, x], argTypes := #[t, t] })
    (e : TypeId) (z : Value) (bytes : Nat) (ht : P.underlying t = some (.slice e)) (hinfo : (P.info? e).map (fun i => (i.zero, i.size, i.bytes)) = some (some z, 1, bytes)) (hzs : z.cells.size = 1)
    (lo hi' : Nat) (v : Value) (n : Nat) (f : Nat → Value) (tB : Value) (hs : a.eval s = v) (hown : OwnE2 w lo hi' e v n f tB) (hlo : lo ≤ w.heap.size) (hhi : hi' ≤ w.heap.size)
    (u : Value) (m : Nat) (g : Nat → Value) (hxu : a.eval x = u) (hx : Rd w u m g) (h0 : 0 < m) (h1 : ∀ j, j < m → (g j).oneCell' = true) (h63 : n + m ≤ maxLen) (hbytes : (n + m) * bytes ≤ 140737488355328)
    (h : ∀ v' w', OwnF w' lo w'.heap.size e v' (n + m) (fun j => if j < n then f j else g (j - n)) → App2 w w' lo hi' e v v' n f tB → wpList P ops Q rest (a.put o.dst v') w') :
    wpList P ops Q (o :: rest) a w := by
  rcases hown with ⟨rfl, p, rfl⟩ | ⟨hown, hne⟩
  · refine wpList_append_fresh hgd s x t ho e z bytes ht hinfo hzs p hs u m g hxu hx h0 (by omega) (by simpa using hbytes) fun v' w' h2 h3 => h v' w' ?_ (.inl ⟨h3, fun b hb => (h2.blocks b hb).1⟩)
    rw [Nat.zero_add]
    exact (h2.mono hlo (Nat.le_refl _)).congr fun j _ => by simp
  · exact wpList_append_G hgd s x t ho e z bytes ht hinfo hzs lo hi' v n f hs hown hlo hhi u m g hxu hx h1 h63 hbytes fun v' w' h2 h3 h4 => h v' w' h2 (.inr ⟨hown, hne, h3, h4⟩)

/-- what stands at the head of the second loop: the outer slice s, the rows (of which the last still lie in t alone) -/
def Lot (w : World) (lo : Nat) (s t : Value) (ra rb k : Nat) (fB : Nat → Value) (L : Nat → List Int) : Prop :=
  ∃ fo, OwnE2 w lo w.heap.size 24 s (ra + k) fo t ∧ RowsN w lo w.heap.size (ra + rb) fo L ∧ OwnF w lo w.heap.size 24 t rb fB ∧ ∀ i, k ≤ i → i < rb → fo (ra + i) = fB i
theorem Lot.row {w : World} {lo ra rb k : Nat} {s t : Value} {fB : Nat → Value} {L : Nat → List Int} (h : Lot w lo s t ra rb k fB L) (hk : k < rb) : OwnI 3 w lo w.heap.size (fB k) (L (ra + k)) := by
  obtain ⟨fo, _, h2, _, h4⟩ := h
  rw [← h4 k (Nat.le_refl _) hk]
  exact h2.1 _ (by omega)
/-- the two lots, as they come from what was made -/
theorem Lot.start {wr w9 : World} {lo ra : Nat} {s t : Value} {fo : Nat → Value} {LA : Nat → List Int} {rows : List (List Int)} (hlo : lo ≤ wr.heap.size) (hE : OwnE wr lo wr.heap.size 24 s ra fo) (hN : RowsN wr lo wr.heap.size ra fo LA)
    (hb : Below wr.heap.size wr w9) (hB : OwnII 24 3 w9 wr.heap.size w9.heap.size t rows) :
    ∃ fB, Lot w9 lo s t ra rows.length 0 fB (fun i => if i < ra then LA i else rows.getD (i - ra) []) := by
  obtain ⟨fB, hB1, hB2⟩ := hB.rowsN
  have hs := hb.size
  refine ⟨fB, fun i => if i < ra then fo i else fB (i - ra), ?_, (hN.keepB hb (Nat.le_refl _)).join hB2 hlo hs, hB1.mono hlo (Nat.le_refl _), fun i _ hi => ?_⟩
  · rcases hE with hE | hE
    · exact .inl hE
    · refine .inr ⟨((hE.keep fun k _ h2 _ => hb.block k h2).mono (Nat.le_refl _) hs).congr fun j hj => ?_, fun b h1 h2 => ?_⟩
      · simp only [show j < ra by omega, if_true]
      · have := hE.blocks b h1
        have := hB1.blocks b h2
        omega
  · simp only [show ¬ ra + i < ra by omega, if_false]
    congr 1; omega
/-- one round: the row grows in place, and then the outer slice -/
theorem Lot.round {wr w7 W : World} {lo ra rb k : Nat} {s t v7 : Value} {fB : Nat → Value} {L : Nat → List Int} {r : List Int} (h : Lot wr lo s t ra rb k fB L) (hk : k < rb) (hlo : lo ≤ wr.heap.size)
    (ho : OwnI 3 w7 lo w7.heap.size v7 r) (hg : wr.grownBy w7 (fB k).ownBlock) (hn : ∀ b, v7.ownBlock = some b → (fB k).ownBlock = some b ∨ wr.heap.size ≤ b) (hW : Below w7.heap.size w7 W) :
    ∃ fo, OwnE2 W lo wr.heap.size 24 s (ra + k) fo t ∧ Below lo wr W ∧
      ∀ v8 w8, OwnF w8 lo w8.heap.size 24 v8 (ra + k + 1) (fun j => if j < ra + k then fo j else v7) → App2 W w8 lo wr.heap.size 24 s v8 (ra + k) fo t →
        Lot w8 lo v8 t ra rb (k + 1) fB (fun i => if i = ra + k then r else L i) ∧ Below lo wr w8 := by
  obtain ⟨fo, h1, h2, h3, h4⟩ := h
  have hs := hg.size
  have hsW := hW.size
  have ek := h4 k (Nat.le_refl _) hk
  have hrow := h2.1 (ra + k) (by omega)
  rw [ek] at hrow
  have hbW : Below lo wr W := (grownBy_below hg hrow.fn.blocks (Nat.le_refl _) hlo).trans (hW.mono (by omega))
  have hN := (h2.set (k := ra + k) (by omega) (Nat.le_refl _) ho (by rw [ek]; exact hg) (by rw [ek]; exact hn)).below hW
  have h3' : OwnF W lo wr.heap.size 24 t rb fB := (OwnF.grown h3 hg fun b e1 e2 => OwnF.apart hrow.fn h3 (by decide) b e2 e1).below hW
  refine ⟨fo, ?_, hbW, fun v8 w8 ho8 hg8 => ?_⟩
  · rcases h1 with h1 | ⟨h1, hne⟩
    · exact .inl h1
    · exact .inr ⟨(OwnF.grown h1 hg fun b e1 e2 => OwnF.apart hrow.fn h1 (by decide) b e2 e1).below hW, hne⟩
  · have hb8 : Below lo W w8 := by
      rcases hg8 with ⟨hg8, _⟩ | ⟨hg8, _, hg9, _⟩
      · exact hg8.mono (by omega)
      · exact grownBy_below hg9 hg8.blocks (Nat.le_refl _) (by omega)
    have hs8 := hb8.size
    refine ⟨⟨fun i => if i = ra + k then v7 else fo i, .inr ⟨?_, ?_⟩, ?_, ?_, fun i hi1 hi2 => ?_⟩, hbW.trans hb8⟩
    · refine ho8.congr fun j hj => ?_
      by_cases e : j = ra + k
      · simp [e]
      · simp [e, show j < ra + k by omega]
    · intro b e1 e2
      have hlt := h3'.blocks b e2
      rcases hg8 with ⟨_, hg8⟩ | ⟨_, hne, _, hg8⟩
      · have := hg8 b e1; omega
      · rcases hg8 b e1 with e3 | e3
        · exact hne b e3 e2
        · omega
    · have hg9 : Below W.heap.size W w8 ∨ (OwnF W lo wr.heap.size 24 s (ra + k) fo ∧ W.grownBy w8 s.ownBlock) := by
        rcases hg8 with ⟨hg8, _⟩ | ⟨hg8, _, hg9, _⟩
        · exact .inl hg8
        · exact .inr ⟨hg8, hg9⟩
      exact (hN.appE hg9).mono (by omega)
    · rcases hg8 with ⟨hg8, _⟩ | ⟨_, hne, hg9, _⟩
      · exact (h3'.below hg8).mono (Nat.le_refl _) (by omega)
      · exact (OwnF.grown h3' hg9 fun b e1 e2 => hne b e2 e1).mono (Nat.le_refl _) (by omega)
    · simp only [show ¬ ra + i = ra + k by omega, if_false]
      exact h4 i (by omega) hi2
/-- .. and at the end -/
theorem Lot.rd {w : World} {lo ra rb : Nat} {s t : Value} {fB : Nat → Value} {L : Nat → List Int} {rows : List (List Int)} (h : Lot w lo s t ra rb rb fB L) (hl : rows.length = ra + rb) (hL : ∀ i, i < ra + rb → L i = rows.getD i []) : RdII w s rows := by
  obtain ⟨fo, h1, h2, _, _⟩ := h
  rw [← hl] at h1 h2 hL
  refine h2.rd (lo' := lo) (hi' := w.heap.size) ?_ hL
  rcases h1 with h1 | ⟨h1, _⟩
  · exact .inl h1
  · exact .inr h1

theorem own_zeros {w : World} {lo hi c : Nat} {v : Value} {xs : List Int} (hl : xs.length = c) (h : OwnF w lo hi 3 v (c + c) (fun j => if j < c then iv xs j else (Value.int .i64 0).cells[0]!)) : OwnI 3 w lo hi v (xs ++ List.replicate c 0) := by
  refine own_join ?_
  rw [hl, List.length_replicate]
  refine h.congr fun j hj => ?_
  by_cases e : j < c
  · simp [e]
  · simp only [e, if_false]
    unfold iv
    rw [List.getD_eq_getElem?_getD]
    simp [show j - c < c by omega, Value.cells]

theorem ints_drop {w : World} {b n cap c : Nat} {xs : List Int} (h : Ints w (.slice (some ⟨b, 0, none⟩) n cap) xs) (hl : xs.length = n) (hc : c ≤ n) (h1 : n ≤ cap) (h2 : cap ≤ maxLen) : Ints w (.slice (some ⟨b, c, none⟩) (n - c) (cap - c)) (xs.drop c) := by
  unfold Ints at h ⊢
  rw [hl] at h
  have := Rd.part h c (n - c) (cap - c) (by omega) (by omega) (by omega)
  rw [Nat.zero_add] at this
  rw [List.length_drop, hl]
  exact this.congr fun j hj => by simp [iv, List.getD_eq_getElem?_getD]

end Go.Proofs.Ytoodgbflaaabmaa

namespace Go.Proofs.Ytoodgbflaaabmaa
set_option linter.all false
open Go.RowKit

/-- a string -/
def strOk (s : List Int) : Bool := decide (1 ≤ s.length ∧ s.length ≤ 7 ∧ ∀ x ∈ s, x = 0 ∨ x = 1)
/-- the rows of the first i places -/
def spR (s : List Int) : Nat → List (List Int)
  | 0 => []
  | i + 1 => if s.getD i 0 = 0 then spR s i else spR s i ++ [unitRow s.length i]
/-- the free places of row r with the pivot i, up to column j -/
def spG (s : List Int) (r i j : Nat) : List Nat := ((List.range j).filter fun (c : Nat) => decide (i < c) && decide (s.getD c 0 = 0)).map fun (c : Nat) => r * s.length + c
def spF (s : List Int) : Nat → List Nat
  | 0 => []
  | i + 1 => if s.getD i 0 = 0 then spF s i else spF s i ++ spG s (spR s i).length i s.length
theorem spR_zero {s : List Int} {i : Nat} (h : s.getD i 0 = 0) : spR s (i + 1) = spR s i := by rw [spR, if_pos h]
theorem spR_one {s : List Int} {i : Nat} (h : ¬ s.getD i 0 = 0) : spR s (i + 1) = spR s i ++ [unitRow s.length i] := by rw [spR, if_neg h]
theorem spF_zero {s : List Int} {i : Nat} (h : s.getD i 0 = 0) : spF s (i + 1) = spF s i := by rw [spF, if_pos h]
theorem spF_one {s : List Int} {i : Nat} (h : ¬ s.getD i 0 = 0) : spF s (i + 1) = spF s i ++ spG s (spR s i).length i s.length := by rw [spF, if_neg h]
theorem spG_start (s : List Int) (r i : Nat) : spG s r i (i + 1) = [] := by
  unfold spG
  rw [List.filter_eq_nil_iff.2 ?_]; rfl
  intro c hc
  have := List.mem_range.1 hc
  simp; intro h2; omega
theorem spG_no (s : List Int) (r i j : Nat) (h : ¬ s.getD j 0 = 0) : spG s r i (j + 1) = spG s r i j := by
  unfold spG; rw [List.range_succ, List.filter_append]
  have e : List.filter (fun (c : Nat) => decide (i < c) && decide (s.getD c 0 = 0)) [j] = [] := by
    rw [List.filter_cons, if_neg (by rw [decide_eq_false h]; simp)]; rfl
  rw [e, List.append_nil]
theorem spG_yes (s : List Int) (r i j : Nat) (h1 : i < j) (h : s.getD j 0 = 0) : spG s r i (j + 1) = spG s r i j ++ [r * s.length + j] := by
  unfold spG; rw [List.range_succ, List.filter_append]
  have e : List.filter (fun (c : Nat) => decide (i < c) && decide (s.getD c 0 = 0)) [j] = [j] := by
    rw [List.filter_cons, if_pos (by rw [decide_eq_true h1, decide_eq_true h]; rfl)]; rfl
  rw [e]; simp
theorem spG_len (s : List Int) (r i j : Nat) : (spG s r i j).length ≤ j := by
  unfold spG
  rw [List.length_map]
  exact Nat.le_trans (List.length_filter_le _ _) (by simp)
theorem spR_len (s : List Int) : ∀ i, (spR s i).length ≤ i
  | 0 => Nat.le_refl _
  | i + 1 => by
    have := spR_len s i
    unfold spR; split
    · omega
    · rw [List.length_append]; simp; omega
theorem spF_len (s : List Int) (h7 : s.length ≤ 7) : ∀ i, (spF s i).length ≤ i * 7
  | 0 => Nat.le_refl _
  | i + 1 => by
    have := spF_len s h7 i
    unfold spF; split
    · omega
    · have h2 := spG_len s (spR s i).length i s.length
      rw [List.length_append]; omega
theorem spR_flat (s : List Int) : ∀ i, (spR s i).flatten.length = (spR s i).length * s.length
  | 0 => by simp [spR]
  | i + 1 => by
    have := spR_flat s i
    unfold spR; split
    · exact this
    · rw [List.flatten_append, List.length_append, this, List.length_append, List.length_singleton, Nat.succ_mul]
      simp [unitRow_length]
theorem spF_mem (s : List Int) : ∀ i, ∀ t ∈ spF s i, t < (spR s i).length * s.length
  | 0 => fun t h => absurd h (by simp [spF])
  | i + 1 => fun t h => by
    have ih := spF_mem s i
    by_cases e : s.getD i 0 = 0
    · rw [spF_zero e] at h; rw [spR_zero e]; exact ih t h
    · rw [spF_one e] at h
      rw [spR_one e, List.length_append, List.length_singleton, Nat.succ_mul]
      rcases List.mem_append.1 h with h | h
      · have := ih t h; omega
      · unfold spG at h
        obtain ⟨c, hc, rfl⟩ := List.mem_map.1 h
        have := List.mem_range.1 (List.mem_filter.1 hc).1
        omega
theorem unitRow_nat (n i : Nat) : unitRow n (i : Int) = (List.range n).map fun (j : Nat) => if (j : Int) = (i : Int) then 1 else 0 := rfl

/-- all spaces with a string -/
def spMs (p : Int) (s : List Int) : List Mx × Bool := if primeOk p && strOk s then fillB p (spR s s.length).length s.length (spR s s.length).flatten (spF s s.length) else ([], false)
theorem spMs_no {p : Int} {s : List Int} (h : primeOk p = false ∨ strOk s = false) : spMs p s = ([], false) := by
  unfold spMs; rcases h with h | h <;> simp [h]
theorem spMs_yes {p : Int} {s : List Int} (h : primeOk p = true) (h2 : strOk s = true) : spMs p s = fillB p (spR s s.length).length s.length (spR s s.length).flatten (spF s s.length) := by
  unfold spMs; simp [h, h2]
theorem spR_49 {s : List Int} (h7 : s.length ≤ 7) : (spR s s.length).flatten.length ≤ 49 := by
  rw [spR_flat]
  have := spR_len s s.length
  exact Nat.le_trans (Nat.mul_le_mul (Nat.le_trans this h7) h7) (by omega)
theorem spMs_len (p : Int) (s : List Int) : preM (spMs p s).1 (spMs p s).1.length ≤ 1000000 := by
  unfold spMs
  split
  · rename_i h
    simp only [Bool.and_eq_true] at h
    obtain ⟨_, h7, _⟩ := of_decide_eq_true h.2
    exact fillB_len _ _ _ _ _ (spR_49 h7)
  · simp [preM]

/-! ### strings, as both sides look at them -/
theorem isSize_any (n : Int) (w : World) :
    Calls Try.prog 78 #[.int .i64 n] w fun e w' => e = .returned (.bool (decide (1 ≤ n ∧ n ≤ 7))) ∧ w = w' := by
  go_enter Try.func78, Try.ntmps78
  by_cases h1 : 1 ≤ n
  · by_cases h2 : n ≤ 7
    · go_wp2
      go_ret
      exact ⟨ret_bool (by simp [h1, h2]), rfl⟩
    · go_wp2
      go_ret
      exact ⟨ret_bool (by simp [h1, h2]), rfl⟩
  · go_wp2
    go_ret
    exact ⟨ret_bool (by simp; omega), rfl⟩

theorem strOk_take {s : List Int} (h : ∀ k, k < s.length → s.getD k 0 = 0 ∨ s.getD k 0 = 1) : ∀ x ∈ s, x = 0 ∨ x = 1 := by
  intro x hx
  obtain ⟨k, hk, rfl⟩ := List.getElem_of_mem hx
  have := h k hk
  simpa [List.getD_eq_getElem?_getD, hk] using this
theorem strOk_bad {s : List Int} {k : Nat} (hk : k < s.length) (h0 : ¬ s.getD k 0 = 0) (h1 : ¬ s.getD k 0 = 1) : strOk s = false := by
  unfold strOk
  refine decide_eq_false ?_
  rintro ⟨_, _, h⟩
  have := h (s.getD k 0) (getD_mem hk)
  omega

set_option maxRecDepth 100000 in
set_option maxHeartbeats 1000000 in
theorem implIsString_any (v : Value) (s : List Int) (w : World) (h : Ints w v s) :
    Calls Try.prog 51 #[v] w fun e w' => e = .returned (.bool (strOk s)) ∧ w = w' := by
  obtain ⟨p, cap, rfl, ⟨hx1, hx⟩, hxc⟩ := h
  unfold maxLen at hx
  have Hxc := Lib.hid hxc
  clear hxc
  go_enter Try.func51, Try.ntmps51
  go_wp2
  go_loop [7] (fun s7 => ∃ k : Nat, k ≤ s.length ∧ s7 = .int .i64 k ∧ Hid (∀ j, j < k → s.getD j 0 = 0 ∨ s.getD j 0 = 1)) (fun s7 => s.length - (intOf s7).toNat)
  case atStart => exact ⟨0, Nat.zero_le _, rfl, fun j hj => absurd hj (Nat.not_lt_zero _)⟩
  case round =>
    obtain ⟨k, hk, rfl, hok⟩ := hrel
    by_cases hlt : k < s.length
    · have hlt2 : (k : Int) < (s.length : Int) := by omega
      obtain ⟨b, off, rfl, hc⟩ := Hxc.out (by omega)
      have c1 := hc k hlt
      unfold iv at c1
      obtain ⟨x, hx'⟩ : ∃ x, x = s.getD k 0 := ⟨_, rfl⟩
      rw [← hx'] at c1
      have Hx := Lib.hid hx'
      clear hx' hc
      by_cases e0 : x = 0
      · subst e0
        go_wp2
        go_round
        case rel =>
          refine ⟨k + 1, by omega, by go_num, fun j hj => ?_⟩
          by_cases e : j = k
          · subst e; exact Or.inl Hx.out.symm
          · exact hok.out j (by omega)
        case measure => simp [intOf]; omega
      · by_cases e1 : x = 1
        · subst e1
          go_wp2
          go_round
          case rel =>
            refine ⟨k + 1, by omega, by go_num, fun j hj => ?_⟩
            by_cases e : j = k
            · subst e; exact Or.inr Hx.out.symm
            · exact hok.out j (by omega)
          case measure => simp [intOf]; omega
        · have hz : (x != 0) = true := by simp [e0]
          have hz1 : (x != 1) = true := by simp [e1]
          have hbad := Lib.hid (strOk_bad hlt (by rw [← Hx.out]; exact e0) (by rw [← Hx.out]; exact e1))
          go_wp2
          go_ret
          exact ⟨ret_bool hbad.out.symm, rfl⟩
    · obtain rfl : k = s.length := by omega
      have hlt2 : ¬ (s.length : Int) < (s.length : Int) := by omega
      have He := Lib.hid (show decide (1 ≤ (s.length : Int) ∧ (s.length : Int) ≤ 7) = strOk s by
        unfold strOk
        have := strOk_take hok.out
        by_cases h1 : 1 ≤ s.length ∧ s.length ≤ 7
        · rw [decide_eq_true (by omega), decide_eq_true ⟨h1.1, h1.2, this⟩]
        · rw [decide_eq_false (by omega), decide_eq_false (by intro h; exact h1 ⟨h.1, h.2.1⟩)])
      go_wp2_with fail
      refine (isSize_any _ _).mono ?_
      rintro e w' ⟨rfl, rfl⟩
      rw [He.out]
      go_wp2_with fail
      go_ret
      exact ⟨rfl, rfl⟩

theorem implIsString_b (v : Value) (s : List Int) (b : Bool) (hb : strOk s = b) (w : World) (h : Ints w v s) :
    Calls Try.prog 51 #[v] w fun e w' => e = .returned (.bool b) ∧ w = w' := hb ▸ implIsString_any v s w h
end Go.Proofs.Ytoodgbflaaabmaa

namespace Go.Proofs.Ytoodgbflaaabmaa
set_option linter.all false
open Go.RowKit

theorem RowsN.setLow {w : World} {lo hi N : Nat} {f : Nat → Value} {L : Nat → List Int} (h : RowsN w lo hi N f L) {a : Addr} (ha : a.block < lo) (u : Value) : RowsN (w.setCell a u) lo hi N f L :=
  ⟨fun i hi => OwnI.setCell (h.1 i hi) (.inl ha) u, h.2⟩
theorem RowsN.fewer {w : World} {lo hi N M : Nat} {f : Nat → Value} {L : Nat → List Int} (h : RowsN w lo hi N f L) (hM : M ≤ N) : RowsN w lo hi M f L :=
  ⟨fun i hi => h.1 i (by omega), fun i j hi hj => h.2 i j (by omega) (by omega)⟩
theorem RowsN.belowM {w w' : World} {lo hi N : Nat} {f : Nat → Value} {L : Nat → List Int} (h : RowsN w lo hi N f L) (hb : Below w.heap.size w w') (hh : hi ≤ w.heap.size) : RowsN w' lo w'.heap.size N f L :=
  (h.below hb).mono (Nat.le_trans hh hb.size)

/-- free places and rows: slice by slice -/
def spL (s : List Int) (i : Nat) (free : List Nat) (t : Nat) : List Int := if t = 0 then nats free else (spR s i).getD (t - 1) []
def spLr (s : List Int) (i : Nat) (free : List Nat) (t : Nat) : List Int := if t = (spR s i).length + 1 then unitRow s.length i else spL s i free t
/-- what the loop holds: the free places and the rows, each in a block of its own -/
def SpI (w wr : World) (s : List Int) (i : Nat) (free : List Nat) (s6 s7 : Value) : Prop :=
  ∃ f, f 0 = s7 ∧ RowsN wr w.heap.size wr.heap.size ((spR s i).length + 1) f (spL s i free) ∧ OwnF wr w.heap.size wr.heap.size 24 s6 (spR s i).length (fun t => f (t + 1))
/-- .. a row besides, not yet behind the others -/
def SpIr (w wr : World) (s : List Int) (i : Nat) (free : List Nat) (s6 s7 row : Value) : Prop :=
  ∃ f, f 0 = s7 ∧ f ((spR s i).length + 1) = row ∧ RowsN wr w.heap.size wr.heap.size ((spR s i).length + 2) f (spLr s i free) ∧ OwnF wr w.heap.size wr.heap.size 24 s6 (spR s i).length (fun t => f (t + 1))
theorem SpI.start (w : World) (s : List Int) : SpI w ((w.alloc (.cells #[] 24)).alloc (.cells #[] 3)) s 0 [] (.slice (some ⟨w.heap.size, 0, none⟩) 0 0) (.slice (some ⟨w.heap.size + 1, 0, none⟩) 0 0) := by
  refine ⟨fun _ => .slice (some ⟨w.heap.size + 1, 0, none⟩) 0 0, rfl, ⟨fun i hi => ?_, fun i j hi hj => ?_⟩, ?_⟩
  · have hi' : i = 0 := by simp [spR] at hi; omega
    subst hi'
    have h := OwnF.made0 (w.alloc (.cells #[] 24)) 3 (iv [])
    rw [size_alloc] at h
    exact h.ints.mono (by omega) (by simp)
  · simp [spR] at hi hj; omega
  · have h := (OwnF.made0 w 24 (fun t => Value.slice (some ⟨w.heap.size + 1, 0, none⟩) 0 0)).below (below_alloc _ (.cells #[] 3))
    exact h.mono (Nat.le_refl _) (by simp)
theorem SpI.zero {w wr : World} {s : List Int} {i : Nat} {free : List Nat} {s6 s7 : Value} (h : SpI w wr s i free s6 s7) (e : s.getD i 0 = 0) : SpI w wr s (i + 1) free s6 s7 := by
  unfold SpI spL at h ⊢
  rw [spR_zero e]; exact h
theorem SpI.free {w wr : World} {s : List Int} {i : Nat} {free : List Nat} {s6 s7 : Value} (h : SpI w wr s i free s6 s7) : OwnI 3 wr w.heap.size wr.heap.size s7 (nats free) := by
  obtain ⟨f, h0, h1, _⟩ := h
  have := h1.1 0 (by omega)
  rw [h0] at this
  exact this
theorem SpIr.free {w wr : World} {s : List Int} {i : Nat} {free : List Nat} {s6 s7 row : Value} (h : SpIr w wr s i free s6 s7 row) : OwnI 3 wr w.heap.size wr.heap.size s7 (nats free) := by
  obtain ⟨f, h0, hr, h1, _⟩ := h
  have := h1.1 0 (by omega)
  rw [h0] at this
  have e : spLr s i free 0 = nats free := by simp [spLr, spL]
  rw [e] at this
  exact this
theorem SpI.shape {w wr : World} {s : List Int} {i : Nat} {free : List Nat} {s6 s7 : Value} (h : SpI w wr s i free s6 s7) : ∃ p k, s6 = .slice p (spR s i).length k ∧ (spR s i).length ≤ k ∧ k ≤ maxLen := by
  obtain ⟨f, h0, h1, h2⟩ := h
  obtain ⟨p, k, e, h3, h4, _⟩ := h2.shape
  exact ⟨p, k, e, h3, h4⟩
theorem SpI.pend {w wr w1 : World} {s : List Int} {i : Nat} {free : List Nat} {s6 s7 row : Value} (h : SpI w wr s i free s6 s7) (hb : Below wr.heap.size wr w1) (hs : w.heap.size ≤ wr.heap.size)
    (hr : OwnI 3 w1 wr.heap.size w1.heap.size row (unitRow s.length i)) : SpIr w w1 s i free s6 s7 row := by
  obtain ⟨f, h0, h1, h2⟩ := h
  refine ⟨fun t => if t < (spR s i).length + 1 then f t else row, by simp [h0], by simp, ?_, ?_⟩
  · refine (RowsN.snoc (h1.below hb) hr hs hb.size).congr (fun t ht => rfl) fun t ht => ?_
    unfold spLr
    by_cases e : t = (spR s i).length + 1
    · subst e; simp
    · rw [if_neg e, if_pos (by omega)]
  · refine ((h2.below hb).mono (Nat.le_refl _) hb.size).congr fun t ht => ?_
    show f (t + 1) = if t + 1 < (spR s i).length + 1 then f (t + 1) else row
    rw [if_pos (by omega)]
theorem SpIr.below {w wr w' : World} {s : List Int} {i : Nat} {free : List Nat} {s6 s7 row : Value} (h : SpIr w wr s i free s6 s7 row) (hb : Below wr.heap.size wr w') : SpIr w w' s i free s6 s7 row := by
  obtain ⟨f, h0, hr, h1, h2⟩ := h
  exact ⟨f, h0, hr, h1.belowM hb (Nat.le_refl _), (h2.below hb).mono (Nat.le_refl _) hb.size⟩
theorem SpIr.app {w wr w' : World} {s : List Int} {i x : Nat} {free : List Nat} {s6 s7 u row : Value} (h : SpIr w wr s i free s6 s7 row)
    (ho : OwnI 3 w' w.heap.size w'.heap.size u (nats (free ++ [x]))) (hg : wr.grownBy w' s7.ownBlock) (hn : ∀ b, u.ownBlock = some b → s7.ownBlock = some b ∨ wr.heap.size ≤ b) : SpIr w w' s i (free ++ [x]) s6 u row := by
  obtain ⟨f, h0, hr, h1, h2⟩ := h
  rw [← h0] at hg hn
  have hN := h1.set (k := 0) (by omega) (Nat.le_refl _) ho hg hn
  refine ⟨fun t => if t = 0 then u else f t, by simp, by simp [hr], hN.congr (fun t ht => rfl) fun t ht => ?_, ?_⟩
  · by_cases e : t = 0
    · subst e; simp [spLr, spL]
    · simp [spLr, spL, e]
  · refine ((h2.grown hg fun b hb => ?_).mono (Nat.le_refl _) hg.size).congr fun t ht => by simp
    intro e
    exact OwnF.apart (h1.1 0 (by omega)).fn h2 (by decide) b e hb
theorem SpIr.outer {w wr w' : World} {s : List Int} {i : Nat} {free : List Nat} {s6 s7 v row : Value} {f : Nat → Value} (h0 : f 0 = s7) (hr : f ((spR s i).length + 1) = row)
    (h1 : RowsN wr w.heap.size wr.heap.size ((spR s i).length + 2) f (spLr s i free)) (h2 : OwnF wr w.heap.size wr.heap.size 24 s6 (spR s i).length (fun t => f (t + 1))) (e : ¬ s.getD i 0 = 0)
    (hv : OwnF w' w.heap.size w'.heap.size 24 v ((spR s i).length + 1) (fun j => if j < (spR s i).length then f (j + 1) else row)) (hg : wr.grownBy w' s6.ownBlock) : SpI w w' s (i + 1) free v s7 := by
  have hN := (h1.grown h2 hg).mono hg.size
  unfold SpI spL
  rw [spR_one e, List.length_append, List.length_singleton]
  refine ⟨f, h0, hN.congr (fun t ht => rfl) fun t ht => ?_, hv.congr fun t ht => ?_⟩
  · unfold spLr spL
    by_cases e0 : t = 0
    · subst e0; simp
    · rw [if_neg e0]
      by_cases e1 : t = (spR s i).length + 1
      · subst e1; simp [List.getD_eq_getElem?_getD]
      · rw [if_neg e1, if_neg e0, List.getD_eq_getElem?_getD, List.getD_eq_getElem?_getD, List.getElem?_append_left (by omega)]
  · by_cases hlt : t < (spR s i).length
    · simp [hlt]
    · have : t = (spR s i).length := by omega
      subst this; simp [hr]
theorem SpI.rd {w wr : World} {s : List Int} {i : Nat} {free : List Nat} {s6 s7 : Value} (h : SpI w wr s i free s6 s7) : RdII wr s6 (spR s i) := by
  obtain ⟨f, h0, h1, h2⟩ := h
  refine ⟨_, h2.rd, fun j hj => ?_⟩
  have := (h1.1 (j + 1) (by omega)).ints
  unfold spL at this
  simpa using this
/-- a row of zeros with 1 at place i, just made -/
theorem made_unit (wr : World) (n i : Nat) (h : i < n) (hn : n ≤ 1000) : OwnI 3 (wr.alloc (.cells ((madeCells #[Value.int .i64 0] n).setIfInBounds i (.int .i64 1)) 3)) wr.heap.size (wr.heap.size + 1) (.slice (some ⟨wr.heap.size, 0, none⟩) n n) (unitRow n (i : Int)) := by
  have hu := unitRow_length n (i : Int)
  refine OwnF.ints ?_
  rw [hu]
  have hr0 : World.rowIs (wr.alloc (.cells ((madeCells #[Value.int .i64 0] n).setIfInBounds i (.int .i64 1)) 3)) wr.heap.size 3 n (fun j => .int .i64 (if j = i then 1 else 0)) := by
    have := World.rowIs_alloc wr ((madeCells #[Value.int .i64 0] n).setIfInBounds i (.int .i64 1)) 3 (fun j => .int .i64 (if j = i then 1 else 0)) (fun k hk => by
      simp [madeCells] at hk
      by_cases e : k = i
      · subst e; simp [madeCells, h]
      · simp [madeCells, Array.getElem?_setIfInBounds, hk, e, Nat.mod_one, show ¬ i = k by omega])
    simpa [madeCells] using this
  refine OwnF.mk' hr0 (Nat.le_refl _) (by omega) (Nat.le_refl _) (by unfold maxLen; omega) fun j hj => ?_
  rw [iv, unitRow_getD hj]
  by_cases e : j = i
  · subst e; simp
  · rw [if_neg e, if_neg (by omega)]

set_option maxRecDepth 100000 in
set_option maxHeartbeats 4000000 in
theorem implSpacesWith_any (p : Int) (v : Value) (s : List Int) (w : World) (h : Ints w v s) :
    Calls Try.prog 20 #[.int .i64 p, v] w (RetMsB w (spMs p s)) := by
  have Hh := Lib.hid h
  cases hp : primeOk p with
  | false =>
    rw [spMs_no (.inl hp)]
    have Hp := Lib.hid hp
    clear hp h
    go_enter Try.func20, Try.ntmps20
    go_wp2_with (go_at_call 34; refine (isPrime_b _ _ Hp.out _).mono ?_; rintro e w' ⟨rfl, rfl⟩)
    go_ret2
    exact ⟨_, rfl, OwnMs.nil _ _ _, Below.refl _ _⟩
  | true =>
    have Hp := Lib.hid hp
    obtain ⟨hp2, hp7⟩ := primeOk_range hp
    cases hx : strOk s with
    | false =>
      rw [spMs_no (.inr hx)]
      have Hx := Lib.hid hx
      clear hp hx h
      go_enter Try.func20, Try.ntmps20
      go_wp2_with (first
        | (go_at_call 34; refine (isPrime_b _ _ Hp.out _).mono ?_; rintro e w' ⟨rfl, rfl⟩)
        | (go_at_call 51; refine (implIsString_b _ s _ Hx.out _ Hh.out).mono ?_; rintro e w1 ⟨rfl, rfl⟩))
      go_ret2
      exact ⟨_, rfl, OwnMs.nil _ _ _, Below.refl _ _⟩
    | true =>
      rw [spMs_yes hp hx]
      have Hx := Lib.hid hx
      obtain ⟨hl1, hl7, hr⟩ := of_decide_eq_true hx
      have Hr := Lib.hid hr
      obtain ⟨q, cap, rfl, ⟨hx1, hx2⟩, hxc⟩ := h
      obtain ⟨b0, off, rfl, hc0⟩ := hxc (by omega)
      unfold maxLen at hx2
      have Hc0 := Lib.hid hc0
      have Hst := Lib.hid (SpI.start w s)
      have Hb0 := Lib.hid (below_alloc2 w (.cells #[] 24) (.cells #[] 3))
      clear hp hx hr hxc hc0
      go_enter Try.func20, Try.ntmps20
      go_wp2_with (first
        | (go_at_call 34; refine (isPrime_b _ _ Hp.out _).mono ?_; rintro e w' ⟨rfl, rfl⟩)
        | (go_at_call 51; refine (implIsString_b _ s _ Hx.out _ Hh.out).mono ?_; rintro e w1 ⟨rfl, rfl⟩))
      have hmk := run_make_row' (P := Try.prog) 24 3 (.int .i64 0) 8 Try.underlying24 info_int rfl .i64 .i64 s.length (by omega) (by omega)
      have Hmk := Lib.hid hmk
      clear hmk
      go_loopg [6, 7, 24] s.length (fun gg s6 s7 s24 wr => ∃ i : Nat, i ≤ s.length ∧ gg = s.length - i ∧ s24 = .int .i64 i ∧ Below w.heap.size w wr ∧ Hid (SpI w wr s i (spF s i) s6 s7))
      case atStart => exact ⟨0, Nat.zero_le _, rfl, rfl, Hb0.out, Hst.out⟩
      case round =>
        obtain ⟨i, hi, rfl, rfl, hbl, hO⟩ := hrel
        obtain ⟨wo, rfl⟩ : ∃ x : World, x = wr := ⟨_, rfl⟩
        have HO := Lib.hid hO.out
        clear hO
        have hsw := hbl.size
        by_cases hlt : i < s.length
        · have hlt2 : (i : Int) < (s.length : Int) := by omega
          have hlt3 : (0 : Int) ≤ (i : Int) := by omega
          have c1 : wo.cell? ⟨b0, off + i, none⟩ = some (.int .i64 (s.getD i 0)) := by
            have h5 := Hc0.out i hlt
            rw [hbl.cell (p := ⟨b0, off + i, none⟩) (World.block_lt_of_cell? _ _ h5), h5]; rfl
          rcases Hr.out _ (getD_mem hlt) with e0 | e0
          · rw [e0] at c1
            have E0 := Lib.hid e0
            clear e0
            go_wp2_with fail
            go_roundg (s.length - (i + 1))
            case measure => omega
            case rel => exact ⟨i + 1, by omega, rfl, by go_num, hbl, by show SpI _ _ _ _ _ _ _; rw [spF_zero E0.out]; exact HO.out.zero E0.out⟩
          · rw [e0] at c1
            have E0 := Lib.hid (show ¬ s.getD i 0 = 0 by rw [e0]; omega)
            clear e0
            obtain ⟨p6, k6, rfl, hk61, hk62⟩ := HO.out.shape
            unfold maxLen at hk62
            obtain ⟨R, hR⟩ : ∃ R, R = (spR s i).length := ⟨_, rfl⟩
            have hRi : R ≤ i := by rw [hR]; exact spR_len s i
            rw [← hR] at hk61 HO ⊢
            have HR := Lib.hid hR
            have hmk := Hmk.out
            have hcm : (madeCells #[Value.int .i64 0] s.length)[i]? = some (.int .i64 0) := by simp [madeCells, hlt, Nat.mod_one]
            clear hR
            go_wp2_with fail
            clear hmk hcm c1
            obtain ⟨w1, hw1⟩ : ∃ x, x = wo.alloc (.cells ((madeCells #[Value.int .i64 0] s.length).setIfInBounds i (.int .i64 1)) 3) := ⟨_, rfl⟩
            have hrow := made_unit wo s.length i hlt (by omega)
            have hb1 := below_alloc wo (.cells ((madeCells #[Value.int .i64 0] s.length).setIfInBounds i (.int .i64 1)) 3)
            rw [← hw1] at hrow hb1 ⊢
            have hs1 : w1.heap.size = wo.heap.size + 1 := by rw [hw1, size_alloc]
            rw [← hs1] at hrow
            have HI := Lib.hid (HO.out.pend hb1 hsw hrow)
            have HG0 := Lib.hid (spG_start s R i)
            have hbl1 : Below w.heap.size w w1 := hbl.trans (hb1.mono hsw)
            clear hw1 hrow hb1 hs1
            go_loopg [7, 11] (s.length - (i + 1)) (fun gg s7 s11 wr => ∃ j : Nat, i < j ∧ j ≤ s.length ∧ gg = s.length - j ∧ s11 = .int .i64 (j : Int) ∧ Below w.heap.size w wr ∧ Hid (SpIr w wr s i (spF s i ++ spG s R i j) (.slice p6 R k6) s7 (.slice (some ⟨wo.heap.size, 0, none⟩) s.length s.length)))
            case atStart => exact ⟨i + 1, by omega, by omega, rfl, rfl, hbl1, by show SpIr _ _ _ _ _ _ _ _; rw [HG0.out, List.append_nil]; exact HI.out⟩
            case round =>
              obtain ⟨j, hij, hj, rfl, rfl, hbi, hO⟩ := hrel
              have HJ := Lib.hid hO.out
              clear hO
              by_cases hjl : j < s.length
              · have hjl2 : (j : Int) < (s.length : Int) := by omega
                have c2 : wr.cell? ⟨b0, off + j, none⟩ = some (.int .i64 (s.getD j 0)) := by
                  have h5 := Hc0.out j hjl
                  rw [hbi.cell (p := ⟨b0, off + j, none⟩) (World.block_lt_of_cell? _ _ h5), h5]; rfl
                rcases Hr.out _ (getD_mem hjl) with e1 | e1
                · rw [e1] at c2
                  have HGy := Lib.hid (spG_yes s R i j hij e1)
                  clear e1
                  have hnn : R * s.length ≤ 7 * 7 := Nat.mul_le_mul (by omega) hl7
                  obtain ⟨L, hL⟩ : ∃ L, L = spF s i ++ spG s R i j := ⟨_, rfl⟩
                  have hLl : L.length ≤ 60 := by
                    have h1 := spF_len s hl7 i
                    have h2 := spG_len s R i j
                    rw [hL, List.length_append]; omega
                  obtain ⟨K, hK, H3, H4⟩ := mul_hid R s.length (by omega)
                  have hKl : K ≤ 49 := by omega
                  have hfr := HJ.out.free
                  rw [← hL] at hfr
                  have HL := Lib.hid hL
                  have HK := Lib.hid hK
                  have hol := Lib.hid hfr
                  have Hl1 := Lib.hid (show (nats L).length + 1 ≤ maxLen by rw [nats_length]; unfold maxLen; omega)
                  have Hl2 := Lib.hid (show ((nats L).length + 1) * 8 ≤ 140737488355328 by rw [nats_length]; omega)
                  have Hk1 := Lib.hid (show wrap64 ((K : Int) + (j : Int)) = (K : Int) + (j : Int) from w64 (by omega) (by omega))
                  have Hk2 := Lib.hid (show IntKind.i64.wrap ((K : Int) + (j : Int)) = (K : Int) + (j : Int) from k64 (by omega) (by omega))
                  have Hs1 := Lib.hid (show w.heap.size ≤ (wr.alloc (.cells #[.int .i64 ((K : Int) + (j : Int))] 3)).heap.size by have := hbi.size; rw [size_alloc]; omega)
                  have Hs2 := Lib.hid (show wr.heap.size ≤ (wr.alloc (.cells #[.int .i64 ((K : Int) + (j : Int))] 3)).heap.size by rw [size_alloc]; omega)
                  clear hK hnn hLl hL hfr
                  have h3 := H3.out
                  have h4 := H4.out
                  have h5 := Hk1.out
                  have h6 := Hk2.out
                  go_wp2_with (at_builtin; go_must (refine wpList_append_G rfl (.tmp 50) (.tmp 58) 24 rfl 3 (.int .i64 0) 8 Try.underlying24 info_int rfl w.heap.size wr.heap.size _ (nats L).length _ rfl (hol.out.fn.below (below_alloc _ _)) Hs1.out Hs2.out _ _ _ rfl (rd_one _ _ _ rfl) (fun j _ => rfl) Hl1.out Hl2.out ?_; clear h3 h4 h5 h6; intro v' w' ho' hg' hwh'))
                  have hol2 := OwnI.snoc1 ho'
                  have hgb := grownBy_below hg' (OwnF.blocks hol.out.fn) (Nat.le_refl _) Hs1.out
                  go_roundg (s.length - (j + 1))
                  case measure => omega
                  case rel =>
                    refine ⟨j + 1, by omega, by omega, rfl, by go_num, (hbi.trans ((below_alloc _ _).mono hbi.size)).trans hgb, ?_⟩
                    show SpIr _ _ _ _ _ _ _ _
                    rw [HGy.out, ← List.append_assoc, ← HK.out]
                    refine SpIr.app (HJ.out.below (below_alloc _ _)) ?_ hg' hwh'
                    rw [← HL.out, nats_snoc]
                    exact hol2
                · rw [e1] at c2
                  have HGn := Lib.hid (spG_no s R i j (by rw [e1]; omega))
                  clear e1
                  go_wp2_with fail
                  go_roundg (s.length - (j + 1))
                  case measure => omega
                  case rel => exact ⟨j + 1, by omega, by omega, rfl, by go_num, hbi, by show SpIr _ _ _ _ _ _ _ _; rw [HGn.out]; exact HJ.out⟩
              · obtain rfl : j = s.length := by omega
                have hjl2 : ¬ (s.length : Int) < (s.length : Int) := by omega
                have HJ2 := Lib.hid (HJ.out.below (below_alloc wr (.cells #[.slice (some ⟨wo.heap.size, 0, none⟩) s.length s.length] 24)))
                obtain ⟨f, hf0, hfr, hfN, hfO⟩ := HJ2.out
                have Hf0 := Lib.hid hf0
                have Hfr := Lib.hid hfr
                have HfN := Lib.hid hfN
                have HfO2 := Lib.hid hfO
                rw [← HR.out] at hfO
                have HfO := Lib.hid hfO
                have Hl1 := Lib.hid (show R + 1 ≤ maxLen by unfold maxLen; omega)
                have Hl2 := Lib.hid (show (R + 1) * 24 ≤ 140737488355328 by omega)
                have Hs1 := Lib.hid (show w.heap.size ≤ (wr.alloc (.cells #[.slice (some ⟨wo.heap.size, 0, none⟩) s.length s.length] 24)).heap.size by have := hbi.size; rw [size_alloc]; omega)
                clear hf0 hfr hfN hfO
                go_wp2_with (at_builtin; go_must (refine wpList_append_F rfl (.tmp 60) (.tmp 62) 42 rfl 24 (.slice none 0 0) 24 Try.underlying42 info_sl rfl w.heap.size _ _ R _ rfl HfO.out Hs1.out (Nat.le_refl _) _ _ _ rfl (rd_one _ _ _ rfl) (fun j _ => rfl) Hl1.out Hl2.out ?_; intro v' w' ho' hg'))
                have hgb := grownBy_below hg' (OwnF.blocks HfO.out) (Nat.le_refl _) Hs1.out
                go_roundg (s.length - (i + 1))
                case measure => omega
                case rel =>
                  refine ⟨i + 1, by omega, rfl, by go_num, (hbi.trans ((below_alloc _ _).mono hbi.size)).trans hgb, ?_⟩
                  show SpI _ _ _ _ _ _ _
                  rw [spF_one E0.out, ← HR.out]
                  have ho2 := ho'
                  rw [HR.out] at ho2
                  exact SpIr.outer Hf0.out Hfr.out HfN.out HfO2.out E0.out ho2 hg'
        · obtain rfl : i = s.length := by omega
          have hlt2 : ¬ (s.length : Int) < (s.length : Int) := by omega
          have hFl := spF_len s hl7 s.length
          have HF2 := Lib.hid (show (spF s s.length).length ≤ 49 by omega)
          have HD49 := Lib.hid (spR_49 hl7)
          have HD6 := Lib.hid (show (spR s s.length).flatten.length ≤ 1000000 from Nat.le_trans (spR_49 hl7) (by omega))
          have Hmem := Lib.hid (show ∀ t ∈ spF s s.length, t < (spR s s.length).flatten.length by rw [spR_flat]; exact spF_mem s s.length)
          have HII := Lib.hid HO.out.rd
          have Hfr := Lib.hid HO.out.free
          obtain ⟨pv, kv, rfl, _, _⟩ := Hfr.out.shape
          obtain ⟨D, hD⟩ : ∃ D, D = (spR s s.length).flatten := ⟨_, rfl⟩
          obtain ⟨L, hL⟩ : ∃ L, L = spF s s.length := ⟨_, rfl⟩
          have HM := fun u w2 => matrixOf_any p (s.length : Int) u (spR s s.length) w2
          rw [← hD] at HD49 Hmem HD6 HM
          rw [← hL] at HF2 Hmem Hfr ⊢
          rw [nats_length] at Hfr ⊢
          have HDe := Lib.hid hD
          have HLe := Lib.hid hL
          have HM := Lib.hid HM
          clear hFl hD hL
          go_wp2_with fail
          refine (HM.out _ _ HII.out HD6.out).mono ?_
          rintro e w2 ⟨u, rfl, ho, hb2⟩
          dsimp only at ho ⊢
          have Hoi := Lib.hid ho.ints
          obtain ⟨pd, kd, rfl, _, _⟩ := ho.shape
          have Hf2 := Lib.hid (Hfr.out.below hb2)
          have Hb2 := Lib.hid hb2
          clear ho hb2
          go_wp2_with fail
          refine (matricesWith_any p _ _ _ _ _ L _ Hp.out Hoi.out Hf2.out.ints Hmem.out HD49.out HF2.out).mono ?_
          rintro e w3 ⟨vr, rfl, hv, hb3⟩
          have hs1 := Hb2.out.size
          obtain ⟨pr, kr, rfl, _, _⟩ := hv.shape
          have Hv := Lib.hid hv
          clear hv
          go_wp2_with fail
          go_ret2
          have e1 := HDe.out
          have e2 := HLe.out
          subst e1 e2
          exact ⟨_, rfl, Hv.out.mono (by omega) (Nat.le_refl _), (hbl.trans (Hb2.out.mono hsw)).trans (hb3.mono (by omega))⟩

/-! ### the reference -/
def spD (s : List Int) (i : Nat) (free : List Nat) (t : Nat) : List Int := if t = 0 then nats free else (spR s i).flatten
def spDr (s : List Int) (i : Nat) (free : List Nat) (t : Nat) : List Int := if t = 2 then unitRow s.length i else spD s i free t
/-- the free places, the matrix's numbers (a slice in the box at q + 1), each in a block of its own; the result's box at q -/
def SpS (q : Nat) (wr : World) (s : List Int) (i : Nat) (free : List Nat) (s6 : Value) : Prop :=
  ∃ f, f 0 = s6 ∧ wr.heap[q + 1]? = some (.cells #[.int .i64 0, .int .i64 ((spR s i).length : Int), .int .i64 (s.length : Int), f 1] 34) ∧
    wr.heap[q]? = some (.cells #[.int .i64 0, .int .i64 0, .int .i64 0, .slice none 0 0] 34) ∧ RowsN wr (q + 2) wr.heap.size 2 f (spD s i free)
def SpSr (q : Nat) (wr : World) (s : List Int) (i : Nat) (free : List Nat) (s6 row : Value) : Prop :=
  ∃ f, f 0 = s6 ∧ f 2 = row ∧ wr.heap[q + 1]? = some (.cells #[.int .i64 0, .int .i64 ((spR s i).length : Int), .int .i64 (s.length : Int), f 1] 34) ∧
    wr.heap[q]? = some (.cells #[.int .i64 0, .int .i64 0, .int .i64 0, .slice none 0 0] 34) ∧ RowsN wr (q + 2) wr.heap.size 3 f (spDr s i free)
theorem SpS.start (w : World) (s : List Int) : SpS w.heap.size (((w.alloc (.cells #[.int .i64 0, .int .i64 0, .int .i64 0, .slice none 0 0] 34)).alloc (.cells #[.int .i64 0, .int .i64 0, .int .i64 (s.length : Int), .slice none 0 0] 34)).alloc (.cells #[] 3)) s 0 [] (.slice (some ⟨w.heap.size + 1 + 1, 0, none⟩) 0 0) := by
  refine ⟨fun t => if t = 0 then .slice (some ⟨w.heap.size + 1 + 1, 0, none⟩) 0 0 else .slice none 0 0, rfl, ?_, ?_, ⟨fun i hi => ?_, fun i j hi hj hij b => ?_⟩⟩
  · rw [heap_alloc_low _ _ (by simp)]; exact heap_alloc_at _ _ (by simp)
  · rw [heap_alloc_low _ _ (by simp; omega), heap_alloc_low _ _ (by simp)]; exact heap_alloc_top _ _
  · by_cases e : i = 0
    · subst e
      have h := OwnF.made0 ((w.alloc (.cells #[.int .i64 0, .int .i64 0, .int .i64 0, .slice none 0 0] 34)).alloc (.cells #[.int .i64 0, .int .i64 0, .int .i64 (s.length : Int), .slice none 0 0] 34)) 3 (iv [])
      rw [size_alloc, size_alloc] at h
      exact h.ints.mono (Nat.le_refl _) (by simp)
    · simp only [e, if_false]
      unfold spD
      rw [if_neg e]
      exact ⟨World.ownsRow_nil _ _ _ _, fun k hk => by simp [Value.ownBlock] at hk⟩
  · by_cases e : i = 0
    · subst e
      have : ¬ j = 0 := by omega
      simp [this, Value.ownBlock]
    · simp [e, Value.ownBlock]
theorem SpS.zero {q : Nat} {wr : World} {s : List Int} {i : Nat} {free : List Nat} {s6 : Value} (h : SpS q wr s i free s6) (e : s.getD i 0 = 0) : SpS q wr s (i + 1) free s6 := by
  unfold SpS spD at h ⊢
  rw [spR_zero e]; exact h
theorem SpS.pend {q : Nat} {wr w1 : World} {s : List Int} {i : Nat} {free : List Nat} {s6 row : Value} (h : SpS q wr s i free s6) (hb : Below wr.heap.size wr w1)
    (hr : OwnI 3 w1 wr.heap.size w1.heap.size row (unitRow s.length i)) : SpSr q w1 s i free s6 row := by
  obtain ⟨f, h0, hm, hz, h1⟩ := h
  have := blk_lt hm
  refine ⟨fun t => if t < 2 then f t else row, by simp [h0], by simp, by simpa using blk_later hm hb, blk_later hz hb, ?_⟩
  refine (RowsN.snoc (h1.below hb) hr (by omega) hb.size).congr (fun t ht => rfl) fun t ht => ?_
  unfold spDr
  by_cases e : t = 2
  · subst e; simp
  · rw [if_neg e, if_pos (by omega)]
theorem SpSr.free {q : Nat} {wr : World} {s : List Int} {i : Nat} {free : List Nat} {s6 row : Value} (h : SpSr q wr s i free s6 row) : OwnI 3 wr (q + 2) wr.heap.size s6 (nats free) := by
  obtain ⟨f, h0, _, _, _, h1⟩ := h
  have := h1.1 0 (by omega)
  rw [h0] at this
  have e : spDr s i free 0 = nats free := by simp [spDr, spD]
  rw [e] at this
  exact this
theorem SpSr.below {q : Nat} {wr w' : World} {s : List Int} {i : Nat} {free : List Nat} {s6 row : Value} (h : SpSr q wr s i free s6 row) (hb : Below wr.heap.size wr w') : SpSr q w' s i free s6 row := by
  obtain ⟨f, h0, hr, hm, hz, h1⟩ := h
  exact ⟨f, h0, hr, blk_later hm hb, blk_later hz hb, h1.belowM hb (Nat.le_refl _)⟩
theorem SpSr.app {q : Nat} {wr w' : World} {s : List Int} {i x : Nat} {free : List Nat} {s6 u row : Value} (h : SpSr q wr s i free s6 row)
    (ho : OwnI 3 w' (q + 2) w'.heap.size u (nats (free ++ [x]))) (hg : wr.grownBy w' s6.ownBlock) (hn : ∀ b, u.ownBlock = some b → s6.ownBlock = some b ∨ wr.heap.size ≤ b) : SpSr q w' s i (free ++ [x]) u row := by
  obtain ⟨f, h0, hr, hm, hz, h1⟩ := h
  rw [← h0] at hg hn
  have hN := h1.set (k := 0) (by omega) (Nat.le_refl _) ho hg hn
  have hne : ∀ b, some b = (f 0).ownBlock → q + 2 ≤ b := fun b hb => (Own.block (h1.1 0 (by omega)) hb.symm).1
  refine ⟨fun t => if t = 0 then u else f t, by simp, by simp [hr], ?_, ?_, hN.congr (fun t ht => rfl) fun t ht => ?_⟩
  · simp only [show ¬ (1 = 0) by omega, if_false]
    rw [hg.block _ (blk_lt hm) fun e => by have := hne _ e; omega]; exact hm
  · rw [hg.block _ (blk_lt hz) fun e => by have := hne _ e; omega]; exact hz
  · by_cases e : t = 0
    · subst e; simp [spDr, spD]
    · simp [spDr, spD, e]
/-- the row is put behind the matrix's numbers -/
theorem SpSr.outer {q : Nat} {wr w' : World} {s : List Int} {i : Nat} {free : List Nat} {s6 v : Value} {f : Nat → Value} (h0 : f 0 = s6)
    (hm : wr.heap[q + 1]? = some (.cells #[.int .i64 0, .int .i64 ((spR s i).length : Int), .int .i64 (s.length : Int), f 1] 34))
    (hz : wr.heap[q]? = some (.cells #[.int .i64 0, .int .i64 0, .int .i64 0, .slice none 0 0] 34)) (h1 : RowsN wr (q + 2) wr.heap.size 3 f (spDr s i free)) (e : ¬ s.getD i 0 = 0)
    (ho : OwnI 3 w' (q + 2) w'.heap.size v ((spR s i).flatten ++ unitRow s.length i)) (hg : wr.grownBy w' (f 1).ownBlock) (hn : ∀ b, v.ownBlock = some b → (f 1).ownBlock = some b ∨ wr.heap.size ≤ b) :
    SpS q ((w'.setCell ⟨q + 1, 3, none⟩ v).setCell ⟨q + 1, 1, none⟩ (.int .i64 (((spR s i).length : Int) + 1))) s (i + 1) free s6 := by
  have hN := h1.set (k := 1) (by omega) (Nat.le_refl _) ho hg hn
  have hne : ∀ b, some b = (f 1).ownBlock → q + 2 ≤ b := fun b hb => (Own.block (h1.1 1 (by omega)) hb.symm).1
  have hm2 : w'.heap[q + 1]? = some (.cells #[.int .i64 0, .int .i64 ((spR s i).length : Int), .int .i64 (s.length : Int), f 1] 34) := by
    rw [hg.block _ (blk_lt hm) fun e => by have := hne _ e; omega]; exact hm
  have hz2 : w'.heap[q]? = some (.cells #[.int .i64 0, .int .i64 0, .int .i64 0, .slice none 0 0] 34) := by
    rw [hg.block _ (blk_lt hz) fun e => by have := hne _ e; omega]; exact hz
  unfold SpS spD
  rw [spR_one e]
  refine ⟨fun t => if t = 1 then v else f t, by simp [h0], ?_, ?_, ?_⟩
  · have h5 := heap_setCell_at (heap_setCell_at hm2 3 v) 1 (.int .i64 (((spR s i).length : Int) + 1))
    simpa using h5
  · rw [Below.heap_setCell _ _ _ _ (show q ≠ (⟨q + 1, 1, none⟩ : Addr).block by show q ≠ q + 1; omega), Below.heap_setCell _ _ _ _ (show q ≠ (⟨q + 1, 3, none⟩ : Addr).block by show q ≠ q + 1; omega)]
    exact hz2
  · have h6 := ((hN.fewer (M := 2) (by omega)).setLow (a := ⟨q + 1, 3, none⟩) (by show q + 1 < q + 2; omega) v).setLow (a := ⟨q + 1, 1, none⟩) (by show q + 1 < q + 2; omega) (.int .i64 (((spR s i).length : Int) + 1))
    rw [size_setCell, size_setCell]
    refine h6.congr (fun t ht => rfl) fun t ht => ?_
    by_cases e1 : t = 1
    · subst e1; simp [List.flatten_append]
    · have : t = 0 := by omega
      subst this; simp [spDr, spD]

end Go.Proofs.Ytoodgbflaaabmaa
