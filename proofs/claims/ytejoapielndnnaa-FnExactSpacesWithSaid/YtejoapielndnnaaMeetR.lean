/-
  Rows, each in a block of its own, while one of them grows in its own block.
-/
import Derived.Test.YtejoapielndnnaaStep
import Derived.Test.YtejoapielndnnaaMakeF
import Derived.Lib.OwnKind
namespace Go.Proofs.Ytejoapielndnnaa
set_option linter.all false
open Go.RowKit

/-- what is owned with elements of two kinds lies in two blocks -/
theorem OwnF.apart {w : World} {lo hi lo' hi' : Nat} {T T' : TypeId} {v v' : Value} {n n' : Nat} {f f' : Nat → Value} (h : OwnF w lo hi T v n f) (h' : OwnF w lo' hi' T' v' n' f') (hT : T ≠ T') : ∀ k, v.ownBlock = some k → v'.ownBlock ≠ some k := by
  intro k h1 h2
  obtain ⟨xs, h, _⟩ := h
  obtain ⟨ys, h', _⟩ := h'
  obtain ⟨c, fz, e⟩ := Lib.ownsRow_kind h.1 k h1
  obtain ⟨c', fz', e'⟩ := Lib.ownsRow_kind h'.1 k h2
  rw [e] at e'
  injection e' with e'
  injection e' with _ e' _
  exact hT e'

theorem OwnI.grownI {w w' : World} {lo hi : Nat} {T : TypeId} {v u : Value} {xs : List Int} (h : OwnI T w lo hi v xs) (hg : w.grownBy w' u.ownBlock) (hne : ∀ k, v.ownBlock = some k → u.ownBlock ≠ some k) : OwnI T w' lo hi v xs :=
  ⟨ownsRow_of_block h.1 fun k hk => hg.block k (Own.block h hk).2.2 fun e => hne k hk e.symm, h.2⟩
/-- rows, each in a block of its own -/
def RowsN (w : World) (lo hi N : Nat) (f : Nat → Value) (L : Nat → List Int) : Prop :=
  (∀ i, i < N → OwnI 3 w lo hi (f i) (L i)) ∧ ∀ i j, i < N → j < N → i ≠ j → ∀ b, (f i).ownBlock = some b → (f j).ownBlock ≠ some b
theorem RowsN.mono {w : World} {lo hi hi' N : Nat} {f : Nat → Value} {L : Nat → List Int} (h : RowsN w lo hi N f L) (hh : hi ≤ hi') : RowsN w lo hi' N f L :=
  ⟨fun i hi => (h.1 i hi).mono (Nat.le_refl _) hh, h.2⟩
theorem RowsN.grown {w w' : World} {lo hi N lo' hi' n : Nat} {f g : Nat → Value} {L : Nat → List Int} {v : Value} (h : RowsN w lo hi N f L) (hv : OwnF w lo' hi' 22 v n g) (hg : w.grownBy w' v.ownBlock) : RowsN w' lo hi N f L :=
  ⟨fun i hi => OwnI.grownI (h.1 i hi) hg fun k hk => OwnF.apart (h.1 i hi).fn hv (by decide) k hk, h.2⟩
theorem RowsN.set {w w' : World} {lo hi N k : Nat} {f : Nat → Value} {L : Nat → List Int} {u : Value} {r : List Int} (h : RowsN w lo hi N f L) (hk : k < N) (hhi : hi ≤ w.heap.size) (ho : OwnI 3 w' lo w'.heap.size u r)
    (hg : w.grownBy w' (f k).ownBlock) (hn : ∀ b, u.ownBlock = some b → (f k).ownBlock = some b ∨ w.heap.size ≤ b) :
    RowsN w' lo w'.heap.size N (fun i => if i = k then u else f i) (fun i => if i = k then r else L i) := by
  have hs := hg.size
  refine ⟨fun i hi => ?_, fun i j hi hj hij b => ?_⟩
  · by_cases e : i = k
    · simp only [e, if_true]; exact ho
    · simp only [e, if_false]
      exact OwnI.mono (OwnI.grownI (h.1 i hi) hg fun b hb => (h.2 i k hi hk e b hb)) (Nat.le_refl _) (by omega)
  · by_cases e : i = k
    · subst e
      have e2 : ¬ j = i := fun e => hij e.symm
      simp only [e2, if_true, if_false]
      intro hb hb2
      rcases hn b hb with h1 | h1
      · exact h.2 i j hi hj hij b h1 hb2
      · have := OwnF.blocks (h.1 j hj).fn b hb2
        omega
    · by_cases e2 : j = k
      · subst e2
        simp only [e, if_true, if_false]
        intro hb hb2
        rcases hn b hb2 with h1 | h1
        · exact h.2 i j hi hj hij b hb h1
        · have := OwnF.blocks (h.1 i hi).fn b hb
          omega
      · simp only [e, e2, if_false]
        exact h.2 i j hi hj hij b

/-- the outer slice of what is built: still empty, wherever it lies, or owned from lo on -/
def OwnE (w : World) (lo hi : Nat) (T : TypeId) (v : Value) (n : Nat) (f : Nat → Value) : Prop := (n = 0 ∧ ∃ p, v = .slice p 0 0) ∨ OwnF w lo hi T v n f
/-- append onto it -/
theorem wpList_append_E {P : Program} {w : World} {ops : Array Oper} {rest : List Oper} {o : Oper} {a : Act} {Q : Exit → Act → World → Prop} (hgd : o.guard = none) (s x : Operand) (t : TypeId)
    (ho : o.op = .call { callee := .builtin .append, args := #[s, x], argTypes := #[t, t] })
    (e : TypeId) (z : Value) (bytes : Nat) (ht : P.underlying t = some (.slice e)) (hinfo : (P.info? e).map (fun i => (i.zero, i.size, i.bytes)) = some (some z, 1, bytes)) (hzs : z.cells.size = 1)
    (lo hi' : Nat) (v : Value) (n : Nat) (f : Nat → Value) (hs : a.eval s = v) (hown : OwnE w lo hi' e v n f) (hlo : lo ≤ w.heap.size) (hhi : hi' ≤ w.heap.size)
    (u : Value) (m : Nat) (g : Nat → Value) (hxu : a.eval x = u) (hx : Rd w u m g) (h0 : 0 < m) (h1 : ∀ j, j < m → (g j).oneCell' = true) (h63 : n + m ≤ maxLen) (hbytes : (n + m) * bytes ≤ 140737488355328)
    (h : ∀ v' w', OwnF w' lo w'.heap.size e v' (n + m) (fun j => if j < n then f j else g (j - n)) → (Below w.heap.size w w' ∨ (OwnF w lo hi' e v n f ∧ w.grownBy w' v.ownBlock)) → wpList P ops Q rest (a.put o.dst v') w') :
    wpList P ops Q (o :: rest) a w := by
  rcases hown with ⟨rfl, p, rfl⟩ | hown
  · refine wpList_append_fresh hgd s x t ho e z bytes ht hinfo hzs p hs u m g hxu hx h0 (by omega) (by simpa using hbytes) fun v' w' h2 h3 => h v' w' ?_ (.inl h3)
    rw [Nat.zero_add]
    exact (h2.mono hlo (Nat.le_refl _)).congr fun j _ => by simp
  · exact wpList_append_F hgd s x t ho e z bytes ht hinfo hzs lo hi' v n f hs hown hlo hhi u m g hxu hx h1 h63 hbytes fun v' w' h2 h3 => h v' w' h2 (.inr ⟨hown, h3⟩)
/-- what lies below lo stays -/
theorem ownE_below {w w' : World} {lo hi n : Nat} {T : TypeId} {v : Value} {f : Nat → Value} (hlo : lo ≤ w.heap.size) (h : Below w.heap.size w w' ∨ (OwnF w lo hi T v n f ∧ w.grownBy w' v.ownBlock)) : Below lo w w' := by
  rcases h with h | ⟨h, hg⟩
  · exact h.mono hlo
  · exact grownBy_below hg h.blocks (Nat.le_refl _) hlo
/-- and so do rows in blocks of their own -/
theorem RowsN.appE {w w' : World} {lo hi N lo' hi' n : Nat} {f g : Nat → Value} {L : Nat → List Int} {v : Value} (h : RowsN w lo hi N f L) (hg : Below w.heap.size w w' ∨ (OwnF w lo' hi' 22 v n g ∧ w.grownBy w' v.ownBlock)) : RowsN w' lo hi N f L := by
  rcases hg with hg | ⟨h1, h2⟩
  · exact ⟨fun i hi => (h.1 i hi).below hg, h.2⟩
  · exact h.grown h1 h2

theorem RowsN.congr {w : World} {lo hi N : Nat} {f f' : Nat → Value} {L L' : Nat → List Int} (h : RowsN w lo hi N f L) (hf : ∀ i, i < N → f' i = f i) (hL : ∀ i, i < N → L' i = L i) : RowsN w lo hi N f' L' :=
  ⟨fun i hi => by rw [hf i hi, hL i hi]; exact h.1 i hi, fun i j hi hj hij => by rw [hf i hi, hf j hj]; exact h.2 i j hi hj hij⟩
theorem RowsN.below {w w' : World} {lo hi N : Nat} {f : Nat → Value} {L : Nat → List Int} (h : RowsN w lo hi N f L) (hb : Below w.heap.size w w') : RowsN w' lo hi N f L :=
  ⟨fun i hi => (h.1 i hi).below hb, h.2⟩
/-- one row more, made later -/
theorem RowsN.snoc {w : World} {lo mid hi N : Nat} {f : Nat → Value} {L : Nat → List Int} {x : Value} {r : List Int} (h : RowsN w lo mid N f L) (hx : OwnI 3 w mid hi x r) (hm : lo ≤ mid) (hmh : mid ≤ hi) :
    RowsN w lo hi (N + 1) (fun i => if i < N then f i else x) (fun i => if i < N then L i else r) := by
  refine ⟨fun i hi => ?_, fun i j hi hj hij b => ?_⟩
  · by_cases e : i < N
    · simp only [e, if_true]; exact (h.1 i e).mono (Nat.le_refl _) hmh
    · simp only [e, if_false]; exact hx.mono hm (Nat.le_refl _)
  · by_cases e : i < N
    · by_cases e2 : j < N
      · simp only [e, e2, if_true]
        exact h.2 i j e e2 hij b
      · simp only [e, e2, if_true, if_false]
        intro hb hb2
        have := OwnF.blocks (h.1 i e).fn b hb
        have := OwnF.blocks hx.fn b hb2
        omega
    · by_cases e2 : j < N
      · simp only [e, e2, if_true, if_false]
        intro hb hb2
        have := OwnF.blocks (h.1 j e2).fn b hb2
        have := OwnF.blocks hx.fn b hb
        omega
      · omega
/-- two lots of rows, the second made later -/
theorem RowsN.join {w : World} {lo mid hi N M : Nat} {f g : Nat → Value} {L K : Nat → List Int} (h : RowsN w lo mid N f L) (hx : RowsN w mid hi M g K) (hm : lo ≤ mid) (hmh : mid ≤ hi) :
    RowsN w lo hi (N + M) (fun i => if i < N then f i else g (i - N)) (fun i => if i < N then L i else K (i - N)) := by
  refine ⟨fun i hi => ?_, fun i j hi hj hij b => ?_⟩
  · by_cases e : i < N
    · simp only [e, if_true]; exact (h.1 i e).mono (Nat.le_refl _) hmh
    · simp only [e, if_false]; exact (hx.1 _ (by omega)).mono hm (Nat.le_refl _)
  · by_cases e : i < N
    · by_cases e2 : j < N
      · simp only [e, e2, if_true]
        exact h.2 i j e e2 hij b
      · simp only [e, e2, if_true, if_false]
        intro hb hb2
        have := OwnF.blocks (h.1 i e).fn b hb
        have := OwnF.blocks (hx.1 (j - N) (by omega)).fn b hb2
        omega
    · by_cases e2 : j < N
      · simp only [e, e2, if_true, if_false]
        intro hb hb2
        have := OwnF.blocks (h.1 j e2).fn b hb2
        have := OwnF.blocks (hx.1 (i - N) (by omega)).fn b hb
        omega
      · simp only [e, e2, if_false]
        exact hx.2 _ _ (by omega) (by omega) (by omega) b
/-- a list of rows, taken apart -/
theorem OwnII.rowsN {w : World} {lo hi : Nat} {v : Value} {rows : List (List Int)} (h : OwnII 22 3 w lo hi v rows) : ∃ f, OwnF w lo hi 22 v rows.length f ∧ RowsN w lo hi rows.length f fun i => rows.getD i [] := by
  obtain ⟨f, h1, h2, h3⟩ := h
  refine ⟨f, h1, h2, fun i j hi hj hij b hb hb2 => ?_⟩
  rcases Nat.lt_or_gt_of_ne hij with e | e
  · exact h3 i j e hj b hb hb2
  · exact h3 j i e hi b hb2 hb
/-- .. and together -/
theorem RowsN.rd {w : World} {lo hi lo' hi' : Nat} {v : Value} {rows : List (List Int)} {f : Nat → Value} {L : Nat → List Int} (h : RowsN w lo hi rows.length f L) (hv : OwnE w lo' hi' 22 v rows.length f) (hL : ∀ i, i < rows.length → L i = rows.getD i []) : RdII w v rows := by
  refine ⟨f, ?_, fun i hi => by rw [← hL i hi]; exact (h.1 i hi).ints⟩
  rcases hv with ⟨e, p, rfl⟩ | hv
  · rw [e]
    exact ⟨p, 0, rfl, ⟨Nat.le_refl _, Nat.zero_le _⟩, fun h => absurd h (Nat.lt_irrefl _)⟩
  · exact hv.rd

/-! ### two loops: rows are put behind rows, and the second lot grows in place -/

theorem OwnE.keepB {w w' : World} {lo hi n B : Nat} {T : TypeId} {v : Value} {f : Nat → Value} (h : OwnE w lo hi T v n f) (hb : Below B w w') (hh : hi ≤ B) : OwnE w' lo hi T v n f := by
  rcases h with h | h
  · exact .inl h
  · exact .inr (h.keep fun k _ h2 _ => hb.block k (by omega))
theorem RowsN.keepB {w w' : World} {lo hi N B : Nat} {f : Nat → Value} {L : Nat → List Int} (h : RowsN w lo hi N f L) (hb : Below B w w') (hh : hi ≤ B) : RowsN w' lo hi N f L :=
  ⟨fun i hi => Own.keep (h.1 i hi) fun k _ h2 _ => hb.block k (by omega), h.2⟩

/-- one round of the first loop, put together -/
theorem RowsN.round1 {wr W w8 : World} {lo k : Nat} {fo : Nat → Value} {L : Nat → List Int} {s6 v7 : Value} {r : List Int} (hN : RowsN wr lo wr.heap.size k fo L) (hlo : lo ≤ wr.heap.size)
    (hW : Below wr.heap.size wr W) (ho7 : OwnI 3 W wr.heap.size W.heap.size v7 r)
    (hg : Below W.heap.size W w8 ∨ (OwnF W lo wr.heap.size 22 s6 k fo ∧ W.grownBy w8 s6.ownBlock)) :
    RowsN w8 lo w8.heap.size (k + 1) (fun j => if j < k then fo j else v7) (fun j => if j < k then L j else r) ∧ Below lo wr w8 := by
  have hs := hW.size
  have hb8 := ownE_below (by omega) hg
  have hs8 := hb8.size
  exact ⟨((RowsN.snoc (hN.keepB hW (Nat.le_refl _)) ho7 hlo hs).appE hg).mono hs8, (hW.mono hlo).trans hb8⟩

/-- as OwnE, and it does not lie where t lies -/
def OwnE2 (w : World) (lo hi : Nat) (T : TypeId) (v : Value) (n : Nat) (f : Nat → Value) (t : Value) : Prop := (n = 0 ∧ ∃ p, v = .slice p 0 0) ∨ (OwnF w lo hi T v n f ∧ ∀ b, v.ownBlock = some b → t.ownBlock ≠ some b)
def App2 (w w' : World) (lo hi : Nat) (T : TypeId) (v v' : Value) (n : Nat) (f : Nat → Value) (t : Value) : Prop :=
  (Below w.heap.size w w' ∧ ∀ b, v'.ownBlock = some b → w.heap.size ≤ b) ∨ (OwnF w lo hi T v n f ∧ (∀ b, v.ownBlock = some b → t.ownBlock ≠ some b) ∧ w.grownBy w' v.ownBlock ∧ ∀ b, v'.ownBlock = some b → v.ownBlock = some b ∨ w.heap.size ≤ b)
/-- append onto it -/
theorem wpList_append_E2 {P : Program} {w : World} {ops : Array Oper} {rest : List Oper} {o : Oper} {a : Act} {Q : Exit → Act → World → Prop} (hgd : o.guard = none) (s x : Operand) (t : TypeId)
    (ho : o.op = .call { callee := .builtin .append, args := #[s, x], argTypes := #[t, t] })
    (e : TypeId) (z : Value) (bytes : Nat) (ht : P.underlying t = some (.slice e)) (hinfo : (P.info? e).map (fun i => (i.zero, i.size, i.bytes)) = some (some z, 1, bytes)) (hzs : z.cells.size = 1)
    (lo hi' : Nat) (v : Value) (n : Nat) (f : Nat → Value) (tB : Value) (hs : a.eval s = v) (hown : OwnE2 w lo hi' e v n f tB) (hlo : lo ≤ w.heap.size) (hhi : hi' ≤ w.heap.size)
    (u : Value) (m : Nat) (g : Nat → Value) (hxu : a.eval x = u) (hx : Rd w u m g) (h0 : 0 < m) (h1 : ∀ j, j < m → (g j).oneCell' = true) (h63 : n + m ≤ maxLen) (hbytes : (n + m) * bytes ≤ 140737488355328)
    (h : ∀ v' w', OwnF w' lo w'.heap.size e v' (n + m) (fun j => if j < n then f j else g (j - n)) → App2 w w' lo hi' e v v' n f tB → wpList P ops Q rest (a.put o.dst v') w') :
    wpList P ops Q (o :: rest) a w := by
  rcases hown with ⟨rfl, p, rfl⟩ | ⟨hown, hne⟩
  · refine wpList_append_fresh hgd s x t ho e z bytes ht hinfo hzs p hs u m g hxu hx h0 (by omega) (by simpa using hbytes) fun v' w' h2 h3 => h v' w' ?_ (.inl ⟨h3, fun b hb => (h2.blocks b hb).1⟩)
    rw [Nat.zero_add]
    exact (h2.mono hlo (Nat.le_refl _)).congr fun j _ => by simp
  · exact wpList_append_G hgd s x t ho e z bytes ht hinfo hzs lo hi' v n f hs hown hlo hhi u m g hxu hx h1 h63 hbytes fun v' w' h2 h3 h4 => h v' w' h2 (.inr ⟨hown, hne, h3, h4⟩)

/-- what stands at the head of the second loop: the outer slice s, the rows (of which the last still lie in t alone) -/
def Lot (w : World) (lo : Nat) (s t : Value) (ra rb k : Nat) (fB : Nat → Value) (L : Nat → List Int) : Prop :=
  ∃ fo, OwnE2 w lo w.heap.size 22 s (ra + k) fo t ∧ RowsN w lo w.heap.size (ra + rb) fo L ∧ OwnF w lo w.heap.size 22 t rb fB ∧ ∀ i, k ≤ i → i < rb → fo (ra + i) = fB i
theorem Lot.row {w : World} {lo ra rb k : Nat} {s t : Value} {fB : Nat → Value} {L : Nat → List Int} (h : Lot w lo s t ra rb k fB L) (hk : k < rb) : OwnI 3 w lo w.heap.size (fB k) (L (ra + k)) := by
  obtain ⟨fo, _, h2, _, h4⟩ := h
  rw [← h4 k (Nat.le_refl _) hk]
  exact h2.1 _ (by omega)
/-- the two lots, as they come from what was made -/
theorem Lot.start {wr w9 : World} {lo ra : Nat} {s t : Value} {fo : Nat → Value} {LA : Nat → List Int} {rows : List (List Int)} (hlo : lo ≤ wr.heap.size) (hE : OwnE wr lo wr.heap.size 22 s ra fo) (hN : RowsN wr lo wr.heap.size ra fo LA)
    (hb : Below wr.heap.size wr w9) (hB : OwnII 22 3 w9 wr.heap.size w9.heap.size t rows) :
    ∃ fB, Lot w9 lo s t ra rows.length 0 fB (fun i => if i < ra then LA i else rows.getD (i - ra) []) := by
  obtain ⟨fB, hB1, hB2⟩ := hB.rowsN
  have hs := hb.size
  refine ⟨fB, fun i => if i < ra then fo i else fB (i - ra), ?_, (hN.keepB hb (Nat.le_refl _)).join hB2 hlo hs, hB1.mono hlo (Nat.le_refl _), fun i _ hi => ?_⟩
  · rcases hE with hE | hE
    · exact .inl hE
    · refine .inr ⟨((hE.keep fun k _ h2 _ => hb.block k h2).mono (Nat.le_refl _) hs).congr fun j hj => ?_, fun b h1 h2 => ?_⟩
      · simp only [show j < ra by omega, if_true]
      · have := hE.blocks b h1
        have := hB1.blocks b h2
        omega
  · simp only [show ¬ ra + i < ra by omega, if_false]
    congr 1; omega
/-- one round: the row grows in place, and then the outer slice -/
theorem Lot.round {wr w7 W : World} {lo ra rb k : Nat} {s t v7 : Value} {fB : Nat → Value} {L : Nat → List Int} {r : List Int} (h : Lot wr lo s t ra rb k fB L) (hk : k < rb) (hlo : lo ≤ wr.heap.size)
    (ho : OwnI 3 w7 lo w7.heap.size v7 r) (hg : wr.grownBy w7 (fB k).ownBlock) (hn : ∀ b, v7.ownBlock = some b → (fB k).ownBlock = some b ∨ wr.heap.size ≤ b) (hW : Below w7.heap.size w7 W) :
    ∃ fo, OwnE2 W lo wr.heap.size 22 s (ra + k) fo t ∧ Below lo wr W ∧
      ∀ v8 w8, OwnF w8 lo w8.heap.size 22 v8 (ra + k + 1) (fun j => if j < ra + k then fo j else v7) → App2 W w8 lo wr.heap.size 22 s v8 (ra + k) fo t →
        Lot w8 lo v8 t ra rb (k + 1) fB (fun i => if i = ra + k then r else L i) ∧ Below lo wr w8 := by
  obtain ⟨fo, h1, h2, h3, h4⟩ := h
  have hs := hg.size
  have hsW := hW.size
  have ek := h4 k (Nat.le_refl _) hk
  have hrow := h2.1 (ra + k) (by omega)
  rw [ek] at hrow
  have hbW : Below lo wr W := (grownBy_below hg hrow.fn.blocks (Nat.le_refl _) hlo).trans (hW.mono (by omega))
  have hN := (h2.set (k := ra + k) (by omega) (Nat.le_refl _) ho (by rw [ek]; exact hg) (by rw [ek]; exact hn)).below hW
  have h3' : OwnF W lo wr.heap.size 22 t rb fB := (OwnF.grown h3 hg fun b e1 e2 => OwnF.apart hrow.fn h3 (by decide) b e2 e1).below hW
  refine ⟨fo, ?_, hbW, fun v8 w8 ho8 hg8 => ?_⟩
  · rcases h1 with h1 | ⟨h1, hne⟩
    · exact .inl h1
    · exact .inr ⟨(OwnF.grown h1 hg fun b e1 e2 => OwnF.apart hrow.fn h1 (by decide) b e2 e1).below hW, hne⟩
  · have hb8 : Below lo W w8 := by
      rcases hg8 with ⟨hg8, _⟩ | ⟨hg8, _, hg9, _⟩
      · exact hg8.mono (by omega)
      · exact grownBy_below hg9 hg8.blocks (Nat.le_refl _) (by omega)
    have hs8 := hb8.size
    refine ⟨⟨fun i => if i = ra + k then v7 else fo i, .inr ⟨?_, ?_⟩, ?_, ?_, fun i hi1 hi2 => ?_⟩, hbW.trans hb8⟩
    · refine ho8.congr fun j hj => ?_
      by_cases e : j = ra + k
      · simp [e]
      · simp [e, show j < ra + k by omega]
    · intro b e1 e2
      have hlt := h3'.blocks b e2
      rcases hg8 with ⟨_, hg8⟩ | ⟨_, hne, _, hg8⟩
      · have := hg8 b e1; omega
      · rcases hg8 b e1 with e3 | e3
        · exact hne b e3 e2
        · omega
    · have hg9 : Below W.heap.size W w8 ∨ (OwnF W lo wr.heap.size 22 s (ra + k) fo ∧ W.grownBy w8 s.ownBlock) := by
        rcases hg8 with ⟨hg8, _⟩ | ⟨hg8, _, hg9, _⟩
        · exact .inl hg8
        · exact .inr ⟨hg8, hg9⟩
      exact (hN.appE hg9).mono (by omega)
    · rcases hg8 with ⟨hg8, _⟩ | ⟨_, hne, hg9, _⟩
      · exact (h3'.below hg8).mono (Nat.le_refl _) (by omega)
      · exact (OwnF.grown h3' hg9 fun b e1 e2 => hne b e2 e1).mono (Nat.le_refl _) (by omega)
    · simp only [show ¬ ra + i = ra + k by omega, if_false]
      exact h4 i (by omega) hi2
/-- .. and at the end -/
theorem Lot.rd {w : World} {lo ra rb : Nat} {s t : Value} {fB : Nat → Value} {L : Nat → List Int} {rows : List (List Int)} (h : Lot w lo s t ra rb rb fB L) (hl : rows.length = ra + rb) (hL : ∀ i, i < ra + rb → L i = rows.getD i []) : RdII w s rows := by
  obtain ⟨fo, h1, h2, _, _⟩ := h
  rw [← hl] at h1 h2 hL
  refine h2.rd (lo' := lo) (hi' := w.heap.size) ?_ hL
  rcases h1 with h1 | ⟨h1, _⟩
  · exact .inl h1
  · exact .inr h1

theorem own_zeros {w : World} {lo hi c : Nat} {v : Value} {xs : List Int} (hl : xs.length = c) (h : OwnF w lo hi 3 v (c + c) (fun j => if j < c then iv xs j else (Value.int .i64 0).cells[0]!)) : OwnI 3 w lo hi v (xs ++ List.replicate c 0) := by
  refine own_join ?_
  rw [hl, List.length_replicate]
  refine h.congr fun j hj => ?_
  by_cases e : j < c
  · simp [e]
  · simp only [e, if_false]
    unfold iv
    rw [List.getD_eq_getElem?_getD]
    simp [show j - c < c by omega, Value.cells]

theorem ints_drop {w : World} {b n cap c : Nat} {xs : List Int} (h : Ints w (.slice (some ⟨b, 0, none⟩) n cap) xs) (hl : xs.length = n) (hc : c ≤ n) (h1 : n ≤ cap) (h2 : cap ≤ maxLen) : Ints w (.slice (some ⟨b, c, none⟩) (n - c) (cap - c)) (xs.drop c) := by
  unfold Ints at h ⊢
  rw [hl] at h
  have := Rd.part h c (n - c) (cap - c) (by omega) (by omega) (by omega)
  rw [Nat.zero_add] at this
  rw [List.length_drop, hl]
  exact this.congr fun j hj => by simp [iv, List.getD_eq_getElem?_getD]

end Go.Proofs.Ytejoapielndnnaa
