/-
  summed: a number added to a shape's count, in a list of parts that the call made.
  The laws' own comparisons: ints, matrices; how long the code is.
  The laws' own comparison of classes.
  The identity, as the program makes it; one byte of the code.
  The laws' classIn and swapped; the program's WordPerm at one letter.
  Triples of labels: what triples makes, what Contains tells; the place of a small triangle.
-/
import Derived.Test.YtnpghgpejnlebaaGreatJ19
import Derived.Test.YtnpghgpejnlebaaGreatJ18
import Derived.Test.YtnpghgpejnlebaaGreatJ8
import Derived.Lib.BufferOwn
import Derived.Test.YtnpghgpejnlebaaGreatJ1
import Derived.Test.YtnpghgpejnlebaaGreatJ15
import Derived.Test.YtnpghgpejnlebaaGreatJ9
import Derived.Test.YtnpghgpejnlebaaGreatJ17
import Derived.Test.YtnpghgpejnlebaaGreatJ12
import Derived.ChangeKeysEq
namespace Go.Proofs.YtnpghgpejnlebaaGreat
set_option linter.all false
set_option maxRecDepth 100000
open Go.RowKit

theorem grown_bel {w w' : World} (h : Below w.heap.size w w') (r : Option Nat) : w.grownBy w' r := ⟨h.os, h.tape, h.output, h.size, fun i hi _ => h.block i hi⟩
/-- as OwnPl, the shapes' blocks from lo2 on -/
def OwnP2 (w : World) (lo lo2 hi : Nat) (v : Value) (cs : List Cls) : Prop :=
  ∃ g, OwnS w lo hi 63 2 v cs.length (clF cs g) ∧ ∀ i, i < cs.length → OwnI 3 w lo2 hi (g i) (cs.getD i clD).1
theorem OwnP2.rd {w : World} {lo lo2 hi : Nat} {v : Value} {cs : List Cls} (h : OwnP2 w lo lo2 hi v cs) : RdCl w v cs := by
  obtain ⟨g, h1, h2⟩ := h
  exact ⟨g, h1.rd, fun i hi => (h2 i hi).ints⟩
theorem OwnP2.below {w w' : World} {lo lo2 hi : Nat} {v : Value} {cs : List Cls} (h : OwnP2 w lo lo2 hi v cs) (hb : Below w.heap.size w w') : OwnP2 w' lo lo2 hi v cs := by
  obtain ⟨g, h1, h2⟩ := h
  exact ⟨g, h1.below hb, fun i hi => (h2 i hi).below hb⟩
theorem OwnP2.mono {w : World} {lo lo2 hi lo' hi' : Nat} {v : Value} {cs : List Cls} (h : OwnP2 w lo lo2 hi v cs) (hl : lo' ≤ lo) (hh : hi ≤ hi') : OwnP2 w lo' lo2 hi' v cs := by
  obtain ⟨g, h1, h2⟩ := h
  exact ⟨g, h1.mono hl hh, fun i hi => (h2 i hi).mono (Nat.le_refl _) hh⟩
theorem OwnP2.shape {w : World} {lo lo2 hi : Nat} {v : Value} {cs : List Cls} (h : OwnP2 w lo lo2 hi v cs) : ∃ p cap, v = .slice p cs.length cap ∧ cs.length ≤ cap ∧ cap ≤ maxLen := by
  obtain ⟨g, h1, _⟩ := h
  obtain ⟨p, cap, e, a, b, _⟩ := h1.shape
  exact ⟨p, cap, e, a, b⟩
/-- a cell of a block of another kind, or of a block of numbers ahead of lo2 -/
theorem OwnP2.setCell {w : World} {lo lo2 hi : Nat} {v : Value} {cs : List Cls} (h : OwnP2 w lo lo2 hi v cs) {a : Addr} {c : Array Value} {T : TypeId} {fz : Nat × Nat} (hz : w.heap[a.block]? = some (.cells c T fz)) (hT : T ≠ 63) (hT2 : T ≠ 3 ∨ a.block < lo2) (u : Value) : OwnP2 (w.setCell a u) lo lo2 hi v cs := by
  obtain ⟨g, h1, h2⟩ := h
  have hs : ∀ k, k ≠ a.block → (w.setCell a u).heap[k]? = w.heap[k]? := fun k hk => Below.heap_setCell w a u k hk
  refine ⟨g, ?_, fun i hi' => ?_⟩
  · obtain ⟨xs, q1, q2⟩ := h1
    refine ⟨xs, ⟨ownsRow_of_block q1.1 fun k hk => hs k fun e => ?_, q1.2⟩, q2⟩
    exact ne_of_kinds (Lib.ownsRow_kind q1.1 k hk) ⟨c, fz, by rw [e]; exact hz⟩ (fun e => hT e.symm)
  · have q := h2 i hi'
    refine ⟨ownsRow_of_block q.1 fun k hk => hs k fun e => ?_, q.2⟩
    rcases hT2 with hT2 | hT2
    · exact ne_of_kinds (OwnI.kind q k hk) ⟨c, fz, by rw [e]; exact hz⟩ (fun e => hT2 e.symm)
    · have := (Own.block q hk).1
      omega
def IsPt (w : World) (k : Nat) : Prop := ∃ c fz, w.heap[k]? = some (.cells c 63 fz)
/-- what changed lies from lo on and holds parts, or is new -/
structure FrP (lo : Nat) (w w' : World) : Prop where
  os : w'.os = w.os
  tape : w'.tape = w.tape
  output : w'.output = w.output
  size : w.heap.size ≤ w'.heap.size
  block : ∀ k, k < w.heap.size → (k < lo ∨ ¬ IsPt w k) → w'.heap[k]? = w.heap[k]?
theorem FrP.refl (lo : Nat) (w : World) : FrP lo w w := ⟨rfl, rfl, rfl, Nat.le_refl _, fun _ _ _ => rfl⟩
theorem FrP.of_below {lo : Nat} {w w' : World} (h : Below w.heap.size w w') : FrP lo w w' := ⟨h.os, h.tape, h.output, h.size, fun k hk _ => h.block k hk⟩
theorem FrP.trans {lo : Nat} {a b c : World} (h : FrP lo a b) (k : FrP lo b c) : FrP lo a c :=
  ⟨k.os.trans h.os, k.tape.trans h.tape, k.output.trans h.output, Nat.le_trans h.size k.size, fun i hi ho => by
    have e := h.block i hi ho
    have ho' : i < lo ∨ ¬ IsPt b i := ho.imp id fun hn hp => hn (by unfold IsPt at hp ⊢; rw [e] at hp; exact hp)
    exact (k.block i (Nat.lt_of_lt_of_le hi h.size) ho').trans e⟩
theorem FrP.of_grown {lo lo2 hi : Nat} {w w' : World} {v : Value} {cs : List Cls} (h : OwnP2 w lo lo2 hi v cs) (hg : w.grownBy w' v.ownBlock) : FrP lo w w' :=
  ⟨hg.os, hg.tape, hg.output, hg.size, fun k hk ho => hg.block k hk fun e => by
    obtain ⟨g, h1, _⟩ := h
    rcases ho with ho | ho
    · have := h1.blocks k e.symm; omega
    · exact ho (h1.kind k e.symm)⟩
theorem FrP.setCell {lo lo2 hi g0 n cap j : Nat} {w w' : World} {cs : List Cls} (hf : FrP lo w w') (h : OwnP2 w' lo lo2 hi (.slice (some ⟨g0, 0, none⟩) n cap) cs) (u : Value) : FrP lo w (w'.setCell ⟨g0, j, none⟩ u) := by
  obtain ⟨g, h1, _⟩ := h
  refine ⟨hf.os, hf.tape, hf.output, by rw [size_setCell]; exact hf.size, fun k hk ho => ?_⟩
  have e := hf.block k hk ho
  have hne : g0 ≠ k := fun e2 => by
    rcases ho with ho | ho
    · have := (h1.blocks g0 rfl).1; omega
    · have := h1.kind g0 rfl
      rw [e2, e] at this
      exact ho this
  exact (Below.heap_setCell w' ⟨g0, j, none⟩ u k (fun e2 => hne e2.symm)).trans e
def insP (k : Nat) (x : Cls) (cs : List Cls) : List Cls := cs.take k ++ [x] ++ cs.drop k
theorem insP_len {k : Nat} {x : Cls} {cs : List Cls} (h : k ≤ cs.length) : (insP k x cs).length = cs.length + 1 := by simp [insP]; omega
theorem insP_getD {k : Nat} {x : Cls} {cs : List Cls} (h : k ≤ cs.length) (i : Nat) : (insP k x cs).getD i clD = if i < k then cs.getD i clD else if i = k then x else cs.getD (i - 1) clD := by
  unfold insP
  have hl : (cs.take k).length = k := by simp; omega
  by_cases h1 : i < k
  · rw [if_pos h1, List.append_assoc, List.getD_eq_getElem?_getD, List.getElem?_append_left (by omega), List.getElem?_take, if_pos h1, ← List.getD_eq_getElem?_getD]
  · rw [if_neg h1, List.append_assoc, List.getD_eq_getElem?_getD, List.getElem?_append_right (by omega), hl]
    by_cases h2 : i = k
    · rw [if_pos h2, h2, Nat.sub_self]; rfl
    · rw [if_neg h2]
      obtain ⟨d, hd⟩ : ∃ d, i - k = d + 1 := ⟨i - k - 1, by omega⟩
      rw [hd]
      show ((cs.drop k)[d]?).getD clD = _
      rw [List.getElem?_drop, ← List.getD_eq_getElem?_getD]
      congr 1; omega
theorem insV_at {xs : List Value} {n k : Nat} {a b : Value} (hl : xs.length = n * 2) (hk : k ≤ n) {i j : Nat} (hj : j < 2) : (insV xs k a b)[i * 2 + j]? = if i < k then xs[i * 2 + j]? else if i = k then [a, b][j]? else xs[(i - 1) * 2 + j]? := by
  unfold insV
  have h2 : (xs.take (k * 2)).length = k * 2 := by simp; omega
  by_cases h1 : i < k
  · rw [if_pos h1, List.append_assoc, List.getElem?_append_left (by omega), List.getElem?_take, if_pos (by omega)]
  · rw [if_neg h1, List.append_assoc, List.getElem?_append_right (by omega), h2]
    by_cases e : i = k
    · rw [if_pos e, e, show k * 2 + j - k * 2 = j by omega, List.getElem?_append_left (by simpa using hj)]
    · rw [if_neg e, List.getElem?_append_right (by simp; omega), List.getElem?_drop]
      congr 1
      simp
      omega
theorem clF_one {w : World} {lo hi : Nat} {cs : List Cls} {g : Nat → Value} (h2 : ∀ i, i < cs.length → OwnI 3 w lo hi (g i) (cs.getD i clD).1) {i j : Nat} (hi' : i < cs.length) (hj : j < 2) : (clF cs g i j).oneCell' = true := by
  have : j = 0 ∨ j = 1 := by omega
  rcases this with rfl | rfl
  · obtain ⟨p, cap, e, _⟩ := (h2 i hi').ints
    show (g i).oneCell' = true
    rw [e]; rfl
  · rfl
theorem OwnP2.insert {w w' : World} {lo lo2 hi hi2 n k : Nat} {v u z : Value} {cs : List Cls} {g : Nat → Value} {xs : List Value} {x : Cls} (hn : n = cs.length) (hk : k ≤ n)
    (h1 : Own w lo hi 63 2 v n xs) (hF : ∀ i, i < n → ∀ j, j < 2 → xs[i * 2 + j]? = some (clF cs g i j)) (h2 : ∀ i, i < n → OwnI 3 w lo2 hi (g i) (cs.getD i clD).1)
    (hz : OwnI 3 w lo2 hi2 z x.1) (ho : Own w' lo w'.heap.size 63 2 u (n + 1) (insV xs k z (.int .i64 x.2))) (hg : w.grownBy w' v.ownBlock) (hhi : hi ≤ w'.heap.size) (hhi2 : hi2 ≤ w'.heap.size) :
    OwnP2 w' lo lo2 w'.heap.size u (insP k x cs) := by
  subst hn
  have hrow : ∀ (y : Value) (ys : List Int) (lo1 hi1 : Nat), OwnI 3 w lo1 hi1 y ys → OwnI 3 w' lo1 hi1 y ys := fun y ys lo1 hi1 hy =>
    ⟨ownsRow_of_block hy.1 fun b hb => hg.block b (Own.block hy hb).2.2 fun e => ne_of_kinds (Lib.ownsRow_kind h1.1 b e.symm) (OwnI.kind hy b hb) (by decide), hy.2⟩
  refine ⟨fun i => if i < k then g i else if i = k then z else g (i - 1), ?_, fun i hi' => ?_⟩
  · rw [insP_len hk]
    refine ⟨_, ho, fun i hi' j hj => ?_⟩
    rw [insV_at h1.len hk hj]
    unfold clF
    rw [insP_getD hk]
    by_cases e1 : i < k
    · rw [if_pos e1, if_pos e1, hF i (by omega) j hj]
      unfold clF
      match j, hj with
      | 0, _ => simp [e1]
      | 1, _ => rfl
    · rw [if_neg e1, if_neg e1]
      by_cases e2 : i = k
      · rw [if_pos e2, if_pos e2]
        match j, hj with
        | 0, _ => simp [e1, e2]
        | 1, _ => rfl
      · rw [if_neg e2, if_neg e2, hF (i - 1) (by omega) j hj]
        unfold clF
        match j, hj with
        | 0, _ => simp [e1, e2]
        | 1, _ => rfl
  · rw [insP_len hk] at hi'
    rw [insP_getD hk]
    dsimp only
    by_cases e1 : i < k
    · rw [if_pos e1, if_pos e1]
      exact (hrow _ _ _ _ (h2 i (by omega))).mono (Nat.le_refl _) hhi
    · rw [if_neg e1, if_neg e1]
      by_cases e2 : i = k
      · rw [if_pos e2, if_pos e2]
        exact (hrow _ _ _ _ hz).mono (Nat.le_refl _) hhi2
      · rw [if_neg e2, if_neg e2]
        exact (hrow _ _ _ _ (h2 (i - 1) (by omega))).mono (Nat.le_refl _) hhi
/-- a count is written -/
theorem OwnP2.setN {w : World} {lo lo2 hi g0 n cap k : Nat} {cs : List Cls} (h : OwnP2 w lo lo2 hi (.slice (some ⟨g0, 0, none⟩) n cap) cs) (hk : k < cs.length) (c : Int) :
    OwnP2 (w.setCell ⟨g0, k * 2 + 1, none⟩ (.int .i64 c)) lo lo2 hi (.slice (some ⟨g0, 0, none⟩) n cap) (cs.set k ((cs.getD k clD).1, c)) := by
  obtain ⟨g, h1, h2⟩ := h
  have hsh : ∀ i, ((cs.set k ((cs.getD k clD).1, c)).getD i clD) = if i = k then ((cs.getD k clD).1, c) else cs.getD i clD := fun i => by
    rw [List.getD_eq_getElem?_getD, List.getElem?_set]
    by_cases e : k = i
    · subst e; simp [hk]
    · rw [if_neg e, if_neg (fun c => e c.symm), List.getD_eq_getElem?_getD]
  refine ⟨g, ?_, fun i hi' => ?_⟩
  · have := h1.set hk (show 1 < 2 by omega) (.int .i64 c)
    rw [List.length_set]
    refine this.congr fun i hi' j hj => ?_
    unfold clF
    rw [hsh]
    match j, hj with
    | 0, _ => simp
    | 1, _ =>
      by_cases e : i = k
      · simp [e]
      · simp [e]
  · rw [List.length_set] at hi'
    rw [hsh]
    have h3 : OwnI 3 w lo2 hi (g i) (if i = k then ((cs.getD k clD).1, c) else cs.getD i clD).1 := by
      by_cases e : i = k
      · rw [if_pos e, e]; exact h2 k hk
      · rw [if_neg e]; exact h2 i hi'
    exact h3.setOther (fun e => ne_of_kinds (h1.kind g0 rfl) (OwnI.kind (h2 i hi') g0 e) (by decide)) _

set_option maxHeartbeats 4000000 in
theorem summed_any (v u : Value) (cs : List Cls) (s : List Int) (c : Int) (lo lo2 hi : Nat) (w : World) (h : OwnP2 w lo lo2 hi v cs) (hu : Ints w u s) (asc : AscP cs) (hl : cs.length ≤ 1000) (hs : s.length ≤ 1000)
    (hb : ∀ k, k < cs.length → -100000000000000000 ≤ (cs.getD k clD).2 ∧ (cs.getD k clD).2 ≤ 100000000000000000) (hc : -100000000000000000 ≤ c ∧ c ≤ 100000000000000000) (hlo : lo ≤ w.heap.size) (hlo2 : lo2 ≤ w.heap.size) (hhi : hi ≤ w.heap.size) :
    Calls Tryz.prog 20 #[v, u, .int .i64 c] w fun e w' => ∃ u', e = .returned u' ∧ OwnP2 w' lo lo2 w'.heap.size u' (sumdP s c cs) ∧ FrP lo w w' := by
  obtain ⟨k, hk⟩ : ∃ k, k = posP s cs := ⟨_, rfl⟩
  have hkn : k ≤ cs.length := by rw [hk]; exact posP_le s cs
  have HS := Lib.hid (searchP_any v u cs s k w h.rd hu hl hkn (by rw [hk]; exact posP_at s cs asc))
  by_cases hf : k < cs.length ∧ (cs.getD k clD).1 = s
  · have hdec : decide (k < cs.length ∧ cmpB (cs.getD k clD).1 s = 0) = true := decide_eq_true ⟨hf.1, (cmpB_zero _ _).2 hf.2⟩
    rw [hdec] at HS
    have hres : sumdP s c cs = cs.set k ((cs.getD k clD).1, (cs.getD k clD).2 + c) := by
      unfold sumdP
      rw [← hk, if_pos hf, hf.2]
    rw [hres]
    have hg := h
    obtain ⟨g, h1, h2⟩ := hg
    obtain ⟨p, cap, rfl, hn1, hn2, hp⟩ := h1.shape
    obtain ⟨g0, rfl, hg1, hg2, hg3⟩ := hp (by omega)
    have hcell : w.cell? ⟨g0, k * 2 + 1, none⟩ = some (.int .i64 (cs.getD k clD).2) := h1.cell hf.1 (show 1 < 2 by omega)
    have hfz := h1.frozen (k * 2 + 1)
    have hbk := hb k hf.1
    have Hh := Lib.hid h
    obtain ⟨c0, hc0⟩ : ∃ c0, c0 = (cs.getD k clD).2 := ⟨_, rfl⟩
    rw [← hc0] at hcell hbk ⊢
    have Hc0 := Lib.hid hc0
    obtain ⟨n, hn⟩ : ∃ n, n = cs.length := ⟨_, rfl⟩
    rw [← hn] at HS hn1 ⊢
    have hkn2 : k < n := by rw [hn]; exact hf.1
    have hkn3 : (k : Int) < (n : Int) := by omega
    have Hn := Lib.hid hn
    obtain ⟨nu, ku, pu, rfl⟩ : ∃ nu ku pu, u = .slice pu nu ku := by obtain ⟨pu, ku, e, _⟩ := hu; exact ⟨_, _, _, e⟩
    obtain ⟨c1, hc1⟩ : ∃ c1, c1 = c0 + c := ⟨_, rfl⟩
    have hw1 : wrap64 (c0 + c) = c1 := by rw [hc1]; exact w64 (by omega) (by omega)
    have hw2 : IntKind.i64.wrap (c0 + c) = c1 := by rw [hc1]; exact k64 (by omega) (by omega)
    rw [← hc1]
    unfold maxLen at hn2
    have Hhi := Lib.hid hhi
    clear hlo hlo2 hhi
    clear h hu h1 h2 hp hb hf hdec hres hk hkn hc0 hn asc hc hbk hc1
    go_enter Tryz.func20, Tryz.ntmps20
    go_wp2_with fail
    refine HS.out.mono ?_
    rintro e w1 ⟨rfl, hb1⟩
    have hcell1 := cell_below hb1 hcell
    have hh1 := Hh.out.below hb1
    have hfz1 : w1.frozen? ⟨g0, k * 2 + 1, none⟩ = false := by
      obtain ⟨_, q1, _⟩ := hh1
      exact q1.frozen _
    clear hh1
    have Hb1 := Lib.hid hb1
    go_wp2_with fail
    go_ret
    have hh1 := Hh.out.below Hb1.out
    have q := OwnP2.setN hh1 (k := k) (by rw [← Hn.out]; exact hkn2) c1
    have hsz : (w1.setCell ⟨g0, k * 2 + 1, none⟩ (.int .i64 c1)).heap.size = w1.heap.size := size_setCell _ _ _
    have q2 := q.mono (Nat.le_refl lo) (show hi ≤ (w1.setCell ⟨g0, k * 2 + 1, none⟩ (.int .i64 c1)).heap.size by rw [hsz]; exact Nat.le_trans Hhi.out Hb1.out.size)
    rw [← Hn.out] at q2
    exact ⟨_, rfl, q2, FrP.setCell (FrP.of_below Hb1.out) hh1 _⟩
  · have hdec : decide (k < cs.length ∧ cmpB (cs.getD k clD).1 s = 0) = false := decide_eq_false fun q => hf ⟨q.1, (cmpB_zero _ _).1 q.2⟩
    rw [hdec] at HS
    have hlp : (insP k (s, 0) cs).length = cs.length + 1 := insP_len hkn
    have hkp : (insP k (s, 0) cs).getD k clD = (s, 0) := by rw [insP_getD hkn, if_neg (Nat.lt_irrefl k), if_pos rfl]
    have hres : sumdP s c cs = (insP k (s, 0) cs).set k (((insP k (s, 0) cs).getD k clD).1, c) := by
      unfold sumdP
      rw [← hk, if_neg hf, hkp]
      unfold insP
      have hl2 : (cs.take k).length = k := by simp; omega
      simp only [List.append_assoc]
      rw [List.set_append_right _ _ (by omega), hl2, Nat.sub_self]
      rfl
    rw [hres]
    obtain ⟨L, hL⟩ : ∃ L, L = insP k (s, 0) cs := ⟨_, rfl⟩
    rw [← hL] at hlp hkp ⊢
    have HL := Lib.hid hL
    have HLk := Lib.hid hkp
    have HLl := Lib.hid hlp
    have Hh := Lib.hid h
    have Hu := Lib.hid hu
    obtain ⟨p, cap, rfl, hn1, hn2⟩ := h.shape
    obtain ⟨n, hn⟩ : ∃ n, n = cs.length := ⟨_, rfl⟩
    rw [← hn] at HS hn1 Hh hkn HLl ⊢
    have Hn := Lib.hid hn
    obtain ⟨m, hm⟩ : ∃ m, m = s.length := ⟨_, rfl⟩
    obtain ⟨pu, ku, rfl, _, _⟩ := hu
    rw [← hm] at HS Hu hs ⊢
    have Hm := Lib.hid hm
    have hln : n ≤ 1000 := by omega
    have hw1 : wrap64 c = c := by exact w64 (by omega) (by omega)
    have hw2 : IntKind.i64.wrap c = c := by exact k64 (by omega) (by omega)
    have Hlo := Lib.hid hlo
    have Hlo2 := Lib.hid hlo2
    have Hhi := Lib.hid hhi
    have Hkn := Lib.hid hkn
    clear h hb hc asc hf hdec hres hk hkn hL hlp hkp hn hm hl hlo hlo2 hhi
    go_enter Tryz.func20, Tryz.ntmps20
    go_wp2_with fail
    refine HS.out.mono ?_
    rintro e w1 ⟨rfl, hb1⟩
    have Hb1 := Lib.hid hb1
    clear hb1 HS
    go_wp2_with fail
    refine (clone_any _ s _ (Hu.out.below Hb1.out) (by rw [← Hm.out]; omega)).mono ?_
    rintro e w2 ⟨u2, rfl, ho2, hb2⟩
    have Hb2 := Lib.hid (Hb1.out.trans (hb2.mono Hb1.out.size))
    have Ho2 := Lib.hid ho2
    obtain ⟨p2, k2, rfl, _, _⟩ := ho2.ints
    clear ho2 hb2
    go_wp2_with fail
    have hbx := (below_alloc w2 (.cells #[.slice p2 s.length k2, .int .i64 0] 63))
    have Hbx := Lib.hid (Hb2.out.trans (hbx.mono Hb2.out.size))
    have hvb : (w2.alloc (.cells #[.slice p2 s.length k2, .int .i64 0] 63)).heap[w2.heap.size]? = some (.cells #[.slice p2 s.length k2, .int .i64 0] 63 (0, 0)) := heap_alloc_top _ _
    obtain ⟨g, xs, h1, h1f, h2⟩ : ∃ g xs, Own (w2.alloc (.cells #[.slice p2 s.length k2, .int .i64 0] 63)) lo hi 63 2 (.slice p n cap) n xs ∧
        (∀ i, i < n → ∀ j, j < 2 → xs[i * 2 + j]? = some (clF cs g i j)) ∧ ∀ i, i < n → OwnI 3 (w2.alloc (.cells #[.slice p2 s.length k2, .int .i64 0] 63)) lo2 hi (g i) (cs.getD i clD).1 := by
      obtain ⟨g, ⟨xs, q1, q2⟩, q3⟩ := Hh.out.below Hbx.out
      rw [← Hn.out] at q1 q2 q3
      exact ⟨g, xs, q1, q2, q3⟩
    have hox : ∀ y ∈ xs, y.oneCell' = true := fun y hy => by
      obtain ⟨t, ht, e⟩ := List.mem_iff_getElem.1 hy
      have hxl := h1.len
      have := h1f (t / 2) (by omega) (t % 2) (by omega)
      rw [show t / 2 * 2 + t % 2 = t by omega, List.getElem?_eq_getElem ht, e] at this
      rw [Option.some.inj this]
      exact clF_one (lo := lo2) (hi := hi) (w := (w2.alloc (.cells #[.slice p2 s.length k2, .int .i64 0] 63))) (fun i hi' => h2 i (by rw [Hn.out]; exact hi')) (by rw [← Hn.out]; omega) (by omega)
    refine (insert_any _ n lo hi k _ _ xs _ _ _ h1 Hkn.out (by omega) (Nat.le_trans Hlo.out Hbx.out.size) hvb (fun e => ?_) hox rfl rfl).mono ?_
    · have := (h1.block e).2.1
      have := Hhi.out
      have := Hb2.out.size
      omega
    rintro e w4 ⟨u4, rfl, ho4, hg4⟩
    have q4 : OwnP2 w4 lo lo2 w4.heap.size u4 L := by
      rw [HL.out]
      exact OwnP2.insert Hn.out Hkn.out h1 h1f h2 ((Ho2.out.below hbx).mono (Nat.le_trans Hlo2.out Hb1.out.size) (Nat.le_refl _)) ho4 hg4 (Nat.le_trans Hhi.out (Nat.le_trans Hbx.out.size hg4.size)) (Nat.le_trans hbx.size hg4.size)
    have Hg4 := Lib.hid ((FrP.of_below (lo := lo) Hbx.out).trans (FrP.of_grown (Hh.out.below Hbx.out) hg4))
    have hsh : ∃ g0 cap, u4 = .slice (some ⟨g0, 0, none⟩) (n + 1) cap ∧ w4.cell? ⟨g0, k * 2 + 1, none⟩ = some (.int .i64 0) ∧ w4.frozen? ⟨g0, k * 2 + 1, none⟩ = false := by
      obtain ⟨g', q5, _⟩ := q4
      obtain ⟨p, cap, rfl, hn1, hn2, hp⟩ := q5.shape
      obtain ⟨g0, rfl, _⟩ := hp (by have := HLl.out; omega)
      refine ⟨g0, cap, by rw [HLl.out], ?_, q5.frozen _⟩
      have := q5.cell (i := k) (j := 1) (by have := HLl.out; have := Hkn.out; omega) (by omega)
      rw [this]
      show some (Value.int .i64 (L.getD k clD).2) = _
      rw [HLk.out]
    obtain ⟨g0, cap4, rfl, hcell, hfz⟩ := hsh
    have Hq4 := Lib.hid q4
    have hkn2 : (k : Int) < ((n + 1 : Nat) : Int) := by have := Hkn.out; omega
    clear hbx hvb h1 h1f h2 hox ho4 hg4 q4
    go_wp2_with fail
    go_ret
    have q := OwnP2.setN Hq4.out (k := k) (by rw [HLl.out]; have := Hkn.out; omega) c
    have hsz : (w4.setCell ⟨g0, k * 2 + 1, none⟩ (.int .i64 c)).heap.size = w4.heap.size := size_setCell _ _ _
    exact ⟨_, rfl, q.mono (Nat.le_refl lo) (by rw [hsz]; exact Nat.le_refl _), FrP.setCell Hg4.out Hq4.out _⟩

end Go.Proofs.YtnpghgpejnlebaaGreat

namespace Go.Proofs.YtnpghgpejnlebaaGreat
set_option linter.all false
open Go.RowKit

set_option maxRecDepth 100000 in
set_option maxHeartbeats 400000 in
theorem lawInts_any (v1 v2 : Value) (xs ys : List Int) (w : World) (h1 : Ints w v1 xs) (h2 : Ints w v2 ys) :
    Calls Tryz.prog 30 #[v1, v2] w fun e w' => e = .returned (.bool (decide (xs = ys))) ∧ Qt w w' := by
  obtain ⟨p, cap, rfl, ⟨hx1, hx⟩, hxc⟩ := h1
  obtain ⟨q, cap', rfl, ⟨hy1, hy⟩, hyc⟩ := h2
  unfold maxLen at hx hy
  by_cases hl : xs.length = ys.length
  · have e1 : ((xs.length : Int) != (ys.length : Int)) = false := by simp [hl]
    have Hl := Lib.hid hl
    clear hl
    go_enter Tryz.func30, Tryz.ntmps30
    go_wp2
    clear e1
    go_loopg [5] xs.length (fun g i wr => ∃ k : Nat, k ≤ xs.length ∧ g = xs.length - k ∧ i = .int .i64 k ∧ Qt w wr ∧ Hid (∀ j, j < k → xs.getD j 0 = ys.getD j 0))
    case atStart => exact ⟨0, Nat.zero_le _, rfl, rfl, Qt.refl _, fun j hj => absurd hj (Nat.not_lt_zero _)⟩
    case round =>
      obtain ⟨k, hk, rfl, rfl, hq, hp⟩ := hrel
      by_cases hlt : k < xs.length
      · obtain ⟨b, off, rfl, hc⟩ := hxc (by omega)
        have hl := Hl.out
        obtain ⟨b', off', rfl, hc'⟩ := hyc (by omega)
        have c1 := hq.cell (hc k hlt)
        have c2 := hq.cell (hc' k (by omega))
        have hk2 : k < ys.length := by omega
        unfold iv at c1 c2
        clear hl hxc hyc hc hc'
        go_wp2
        go_quiet (fail)
        go_wp2
        · have ht : (xs[k] != ys[k]) = true := by assumption
          go_ret
          refine ⟨ret_bool ?_, hq.drewN _⟩
          symm
          simp only [decide_eq_false_iff_not]
          intro e
          subst e
          simp at ht
        · have ht : (xs[k] != ys[k]) = false := by assumption
          go_roundg (xs.length - (k + 1))
          case measure => omega
          case rel =>
            refine ⟨k + 1, by omega, rfl, by go_num, hq.drewN _, eq_snoc hp.out ?_⟩
            have := by simpa using ht
            simpa [List.getD_eq_getElem?_getD, hlt, hk2] using this
      · go_wp2
        go_ret
        refine ⟨ret_bool ?_, hq⟩
        symm
        simp only [decide_eq_true_eq]
        exact getD_eq_list Hl.out fun j hj => hp.out j (by omega)
  · have e1 : ((xs.length : Int) != (ys.length : Int)) = true := by simp; omega
    go_enter Tryz.func30, Tryz.ntmps30
    go_wp2
    go_ret
    refine ⟨ret_bool ?_, Qt.refl _⟩
    symm
    simp only [decide_eq_false_iff_not]
    intro e
    exact hl (by rw [e])

set_option maxRecDepth 100000 in
set_option maxHeartbeats 400000 in
theorem big_any (p : Option Addr) (n cap : Nat) (w : World) (hn : n ≤ maxLen) :
    Calls Tryz.prog 4 #[.slice p n cap] w fun e w' => e = .returned (.bool (decide (1048576 < n))) ∧ w = w' := by
  unfold maxLen at hn
  go_enter Tryz.func4, Tryz.ntmps4
  by_cases h : 1048576 < n
  · have h2 : (1048576 : Int) < (n : Int) := by omega
    go_wp2
    go_ret
    exact ⟨ret_bool (by simp [h]), rfl⟩
  · have h2 : ¬ (1048576 : Int) < (n : Int) := by omega
    go_wp2
    go_ret
    exact ⟨ret_bool (by simp [h]), rfl⟩

section
open Go.ChangeShapes Go.WideShapes Go.RowKit Go.Deep Go.WideElems Go.Maps
/-- bytes that came in -/
theorem trod_byts {H : Type} {enc : TypeId × Value → H} {P : Program} {W : World} {m : Nat} {t e : TypeId} {a : Option Addr} {l c : Nat} {y : DataW H × List MemPlace}
    (ht : P.underlying t = some (.slice e)) (he : P.underlying e = some (.int .u8)) (hc : P.cellsOf e = 1)
    (h : DataW.trod enc P W 0 (fun _ => true) true m t [.slice a l c] = some y) : l ≤ maxLen ∧ Byts W (.slice a l c) l := by
  rcases open_ints ht he hc h with ⟨hcs, _⟩ | ⟨x, l', c', zs, hcs, _, hl, hm, hz, _, hcell, _⟩
  · injection hcs with hcs
    injection hcs with h1 h2 h3
    subst h1 h2 h3
    exact ⟨Nat.zero_le _, fun _ => 0, none, 0, rfl, ⟨Nat.le_refl _, Nat.zero_le _⟩, fun h => absurd h (Nat.lt_irrefl _)⟩
  · injection hcs with hcs
    injection hcs with h1 h2 h3
    subst h1 h2 h3
    refine ⟨by omega, fun j => zs.getD j 0, some x, c, rfl, ⟨hl, hm⟩, fun h0 => ?_⟩
    have hz' : zs.length = c := by simpa using hz
    have h0' := hcell 0 (by omega)
    obtain ⟨b, off, spot⟩ := x
    have hs : spot = none := by
      cases spot with
      | none => rfl
      | some s => simp [Addr.add, World.cell?] at h0'; split at h0' <;> simp_all
    subst hs
    refine ⟨b, off, rfl, fun j hj => ?_⟩
    have hadd : (⟨b, off, none⟩ : Addr).add j = ⟨b, off + j, none⟩ := by unfold Addr.add; split <;> simp_all
    rw [← hadd]
    exact hcell j (by omega)
end

end Go.Proofs.YtnpghgpejnlebaaGreat

namespace Go.Proofs.YtnpghgpejnlebaaGreat
set_option linter.all false
set_option maxRecDepth 100000
open Go.RowKit

end Go.Proofs.YtnpghgpejnlebaaGreat

namespace Go.Proofs.YtnpghgpejnlebaaGreat
set_option linter.all false
open Go.RowKit

/-- bytes that can be read, each in its range -/
def Byts8 (w : World) (v : Value) (n : Nat) : Prop := ∃ f : Nat → Int, (Rd w v n fun j => .int .u8 (f j)) ∧ ∀ j, j < n → 0 ≤ f j ∧ f j ≤ 255
theorem Byts8.byts {w : World} {v : Value} {n : Nat} (h : Byts8 w v n) : Byts w v n := by
  obtain ⟨f, h, _⟩ := h
  exact ⟨f, h⟩
theorem Byts8.below {w w' : World} {v : Value} {n : Nat} (h : Byts8 w v n) (hb : Below w.heap.size w w') : Byts8 w' v n := by
  obtain ⟨f, h, h2⟩ := h
  exact ⟨f, h.below hb, h2⟩

theorem identity_ret (n : Nat) : ∀ j, j < n → (Value.int .i64 (j : Int)) = iv (idL n) j := fun j hj => by rw [iv, idL_getD hj]

section
open Go.ChangeShapes Go.WideShapes Go.RowKit Go.Deep Go.WideElems Go.Maps
/-- bytes that came in -/
theorem trod_byts8 {H : Type} {enc : TypeId × Value → H} {P : Program} {W : World} {m : Nat} {t e : TypeId} {a : Option Addr} {l c : Nat} {y : DataW H × List MemPlace}
    (ht : P.underlying t = some (.slice e)) (he : P.underlying e = some (.int .u8)) (hc : P.cellsOf e = 1)
    (h : DataW.trod enc P W 0 (fun _ => true) true m t [.slice a l c] = some y) : l ≤ maxLen ∧ Byts8 W (.slice a l c) l := by
  rcases open_ints ht he hc h with ⟨hcs, _⟩ | ⟨x, l', c', zs, hcs, _, hl, hm, hz, _, hcell, hwf⟩
  · injection hcs with hcs
    injection hcs with h1 h2 h3
    subst h1 h2 h3
    exact ⟨Nat.zero_le _, fun _ => 0, ⟨none, 0, rfl, ⟨Nat.le_refl _, Nat.zero_le _⟩, fun h => absurd h (Nat.lt_irrefl _)⟩, fun j hj => absurd hj (Nat.not_lt_zero _)⟩
  · injection hcs with hcs
    injection hcs with h1 h2 h3
    subst h1 h2 h3
    have hz' : zs.length = c := by simpa using hz
    refine ⟨by omega, fun j => zs.getD j 0, ⟨some x, c, rfl, ⟨hl, hm⟩, fun h0 => ?_⟩, fun j hj => ?_⟩
    · have h0' := hcell 0 (by omega)
      obtain ⟨b, off, spot⟩ := x
      have hs : spot = none := by
        cases spot with
        | none => rfl
        | some s => simp [Addr.add, World.cell?] at h0'; split at h0' <;> simp_all
      subst hs
      refine ⟨b, off, rfl, fun j hj => ?_⟩
      have hadd : (⟨b, off, none⟩ : Addr).add j = ⟨b, off + j, none⟩ := by unfold Addr.add; split <;> simp_all
      rw [← hadd]
      exact hcell j (by omega)
    · have hw := hwf (zs.getD j 0) (getD_mem (by omega))
      simp [Lit.wf, IntKind.wrap] at hw
      rw [show IntKind.u8.min = 0 from by rfl, show IntKind.u8.max = 255 from by rfl] at hw
      simpa [List.getD_eq_getElem?_getD] using hw
end

end Go.Proofs.YtnpghgpejnlebaaGreat

namespace Go.Proofs.YtnpghgpejnlebaaGreat
set_option linter.all false
set_option maxRecDepth 100000
open Go.RowKit

theorem swp_facts {w w' : World} {v' : Value} {xs : List Int} {a b bx ox : Nat} (ho' : OwnF w' w.heap.size w'.heap.size 3 v' xs.length (fun j => iv xs j)) (hbw : Below w.heap.size w w') (ha : a < xs.length) (hb : b < xs.length)
    (ca0 : w.cell? ⟨bx, ox + a, none⟩ = some (iv xs a)) (cb0 : w.cell? ⟨bx, ox + b, none⟩ = some (iv xs b)) :
    ∃ (g kk : Nat) (x y : Int) (z1 z2 : Value), v' = .slice (some ⟨g, 0, none⟩) xs.length kk ∧ w.heap.size ≤ g ∧ Hid (x = xs.getD a 0) ∧ Hid (y = xs.getD b 0) ∧ w'.cell? ⟨bx, ox + a, none⟩ = some (.int .i64 x) ∧ w'.cell? ⟨bx, ox + b, none⟩ = some (.int .i64 y) ∧
      w'.frozen? ⟨g, a, none⟩ = false ∧ w'.frozen? ⟨g, b, none⟩ = false ∧ w'.cell? ⟨g, a, none⟩ = some z1 ∧ (w'.setCell ⟨g, a, none⟩ (.int .i64 y)).cell? ⟨g, b, none⟩ = some z2 ∧ (w'.setCell ⟨g, a, none⟩ (.int .i64 y)).cell? ⟨bx, ox + a, none⟩ = some (.int .i64 x) ∧
      Hid (OwnF w' w.heap.size w'.heap.size 3 (.slice (some ⟨g, 0, none⟩) xs.length kk) xs.length (fun j => iv xs j)) ∧ Hid (Below w.heap.size w w') := by
  obtain ⟨pp, kk, rfl, _, _⟩ := ho'.shape
  obtain ⟨g, rfl, hg1, hg2, hg3⟩ := ho'.at_ (by omega)
  have cx := cell_below hbw ca0
  have cy := cell_below hbw cb0
  have hbg : bx ≠ g := fun e => by have := World.block_lt_of_cell? w _ ca0; simp only at this; omega
  refine ⟨g, kk, _, _, _, _, rfl, hg1, Lib.hid rfl, Lib.hid rfl, cx, cy, ho'.frozen a, ho'.frozen b, ho'.cell ha, (ho'.set a (.int .i64 (xs.getD b 0))).cell hb, ?_, Lib.hid ho', Lib.hid hbw⟩
  rw [World.cell?_setCell_other _ _ _ _ (by intro e; simp only [Addr.mk.injEq] at e; exact hbg e.1.symm)]
  exact cx
theorem isSize_yes (n : Nat) (h1 : 1 ≤ n) (h7 : n ≤ 7) (w : World) : Calls Tryz.prog 57 #[.int .i64 (n : Int)] w fun e w' => e = .returned (.bool true) ∧ w = w' := by
  have hn1 : (1 : Int) ≤ n := by omega
  have hn7 : (n : Int) ≤ 7 := by omega
  go_enter Tryz.func57, Tryz.ntmps57
  go_wp2_with fail
  go_ret
  exact ⟨rfl, rfl⟩
end Go.Proofs.YtnpghgpejnlebaaGreat

namespace Go.Proofs.YtnpghgpejnlebaaGreat
set_option linter.all false
set_option maxRecDepth 100000
open Go.RowKit

theorem eqlA (a b c x y z : Int) (w : World) : (binOp .eql 89 (.agg #[.int .i64 a, .int .i64 b, .int .i64 c]) (.agg #[.int .i64 x, .int .i64 y, .int .i64 z])).run Tryz.prog w = .ok (.bool (decide ((a, b, c) = (x, y, z)))) w := by
  have h1 : Tryz.prog.underlying 89 = some (.array 3 3) := by kernel_rfl
  have h2 : Tryz.prog.underlying 3 = some (.int .i64) := by kernel_rfl
  have h3 : Tryz.prog.plainKey 3 = true := by kernel_rfl
  have h4 : Tryz.prog.cellsOf 3 = 1 := by kernel_rfl
  obtain ⟨i, hi⟩ : ∃ i, Tryz.prog.info? 3 = some i := by
    cases h : Tryz.prog.info? 3 with
    | none => have : (Tryz.prog.info? 3).isSome = true := by kernel_rfl
              rw [h] at this; cases this
    | some i => exact ⟨i, rfl⟩
  have hp : ∀ (p q r : Int) (w : World) (j : Nat) (v : Value), (#[Value.int .i64 p, .int .i64 q, .int .i64 r] : Array Value)[j]? = some v → (part 3 #[.int .i64 p, .int .i64 q, .int .i64 r] j).run Tryz.prog w = .ok v w := fun p q r w j v h => run_part_plain w h3 h
  have he0 : ∀ (p q : Int) (w : World) (d : Nat), (Op.equalIn (d + 1) 3 (.int .i64 p) (.int .i64 q)).run Tryz.prog w = .ok (p == q) w := fun p q w d => by simp [Op.equalIn, run_underlying h2]
  have he := fun (p q : Int) (w : World) => he0 p q w 9998
  have hr : List.range 3 = [0, 1, 2] := by decide
  have key : (Op.equal 89 (.agg #[.int .i64 a, .int .i64 b, .int .i64 c]) (.agg #[.int .i64 x, .int .i64 y, .int .i64 z])).run Tryz.prog w = .ok (decide ((a, b, c) = (x, y, z))) w := by
    unfold Op.equal Op.maxDepth
    rw [run_equalIn_array w 9999 _ _ h1 hi, h4, hr]
    simp only [Op.eqItems, Sem.run_bind, Nat.mul_one]
    rw [hp a b c w 0 (.int .i64 a) rfl, Result.andThen_ok, hp x y z w 0 (.int .i64 x) rfl, Result.andThen_ok, he a x w, Result.andThen_ok]
    by_cases e0 : a = x
    · rw [show (a == x) = true by simp [e0]]
      simp only [Bool.not_true, Bool.false_eq_true, if_false, Sem.run_bind]
      rw [hp a b c w 1 (.int .i64 b) rfl, Result.andThen_ok, hp x y z w 1 (.int .i64 y) rfl, Result.andThen_ok, he b y w, Result.andThen_ok]
      by_cases e1 : b = y
      · rw [show (b == y) = true by simp [e1]]
        simp only [Bool.not_true, Bool.false_eq_true, if_false, Sem.run_bind]
        rw [hp a b c w 2 (.int .i64 c) rfl, Result.andThen_ok, hp x y z w 2 (.int .i64 z) rfl, Result.andThen_ok, he c z w, Result.andThen_ok]
        by_cases e2 : c = z
        · rw [show (c == z) = true by simp [e2]]
          simp [e0, e1, e2]
        · rw [show (c == z) = false by simp [e2]]
          simp [e2]
      · rw [show (b == y) = false by simp [e1]]
        simp [e1]
    · rw [show (a == x) = false by simp [e0]]
      simp [e0]
  simp only [binOp]
  simp [key]


set_option maxHeartbeats 1000000 in
theorem atF_any (r k A : Nat) (w : World) (hA : A = atN r k) (hr : r ≤ 1000) (hk : k ≤ 1000) : Calls Tryz.prog 37 #[.int .i64 (r : Int), .int .i64 (k : Int)] w fun e w' => e = .returned (.int .i64 (A : Int)) ∧ w = w' := by
  unfold atN at hA
  obtain ⟨N, hN⟩ : ∃ N, N = r * (r + 1) := ⟨_, rfl⟩
  have hNle : N ≤ 1001000 := by rw [hN]; have := Nat.mul_le_mul hr (show r + 1 ≤ 1001 by omega); omega
  rw [← hN] at hA
  have hqz : (r : Int) * ((r : Int) + 1) = (N : Int) := by rw [hN, Int.natCast_mul]; rfl
  obtain ⟨H, hH⟩ : ∃ H, H = N / 2 := ⟨_, rfl⟩
  have hlz : (N : Int).tdiv 2 = (H : Int) := by rw [hH, Int.tdiv_eq_ediv_of_nonneg (by omega)]; omega
  have hlz2 : (N : Int) / 2 = (H : Int) := by omega
  rw [← hH] at hA
  have hHle : H ≤ 1001000 := by omega
  have Hs := Lib.hid (show (H : Int) + (k : Int) = (A : Int) by omega)
  clear hN hA hH
  go_enter Tryz.func37, Tryz.ntmps37
  go_wp2_with fail
  go_ret
  exact ⟨ret_int Hs.out, rfl⟩

def trD : Tr := (0, 0, 0)
def trF (i j : Nat) : Value := match j with
  | 0 => .int .i64 (triL.getD i trD).1
  | 1 => .int .i64 (triL.getD i trD).2.1
  | _ => .int .i64 (triL.getD i trD).2.2
def RdT (w : World) (v : Value) : Prop := RdS w 3 v 6 trF
theorem RdT.below {w w' : World} {v : Value} (h : RdT w v) (hb : Below w.heap.size w w') : RdT w' v := RdS.below h hb

theorem tr_mem {k : Nat} (h : k < 6) : triL.getD k trD ∈ triL := by
  rw [List.getD_eq_getElem?_getD, List.getElem?_eq_getElem (show k < triL.length from h)]
  exact List.getElem_mem _
theorem tr_take {k : Nat} (h : k < 6) : triL.take (k + 1) = triL.take k ++ [triL.getD k trD] := by
  rw [List.take_add_one, List.getD_eq_getElem?_getD, List.getElem?_eq_getElem (show k < triL.length from h)]
  rfl

set_option maxHeartbeats 2000000 in
theorem index3_any (v : Value) (x y z : Int) (w : World) (h : RdT w v) :
    Calls Tryz.prog 75 #[v, .agg #[.int .i64 x, .int .i64 y, .int .i64 z]] w fun e w' => ∃ r : Int, e = .returned (.int .i64 r) ∧ (0 ≤ r ↔ (x, y, z) ∈ triL) ∧ -1 ≤ r ∧ Below w.heap.size w w' := by
  obtain ⟨p, cap, rfl, ⟨hx1, hx⟩, hxc⟩ := h
  unfold maxLen at hx
  obtain ⟨b, rfl, hc⟩ := hxc (by omega)
  obtain ⟨W, hW⟩ : ∃ W, W = w.alloc (.cells #[.int .i64 x, .int .i64 y, .int .i64 z] 89) := ⟨_, rfl⟩
  have z0 : W.heap[w.heap.size]? = some (.cells #[.int .i64 x, .int .i64 y, .int .i64 z] 89 (0, 0)) := by rw [hW]; exact heap_alloc_top _ _
  have hb0 : Below w.heap.size w W := by rw [hW]; exact below_alloc w _
  have HW := Lib.hid hW
  have Hz0 := Lib.hid z0
  have Hb0 := Lib.hid hb0
  have Hc := Lib.hid hc
  clear hW z0 hb0 hc hxc
  go_enter Tryz.func75, Tryz.ntmps75
  go_wp2_with fail
  rw [← HW.out]
  go_loopg [8] 6 (fun g i wr => ∃ k : Nat, k ≤ 6 ∧ g = 6 - k ∧ i = .int .i64 k ∧ Qt W wr ∧ Hid ((x, y, z) ∉ triL.take k))
  case atStart => exact ⟨0, Nat.zero_le _, rfl, rfl, Qt.refl _, by simp [Hid]⟩
  case round =>
    obtain ⟨k, hk, rfl, rfl, hq, hp⟩ := hrel
    by_cases hlt : k < 6
    · have e0 := hq.cell (cell_of_blk Hz0.out (j := 0) rfl)
      have e1 := hq.cell (cell_of_blk Hz0.out (j := 1) rfl)
      have e2 := hq.cell (cell_of_blk Hz0.out (j := 2) rfl)
      have c0 : wr.cell? ⟨b, k * 3, none⟩ = some (trF k 0) := hq.cell (cell_below Hb0.out (Hc.out k hlt 0 (by omega)))
      have c1 := hq.cell (cell_below Hb0.out (Hc.out k hlt 1 (by omega)))
      have c2 := hq.cell (cell_below Hb0.out (Hc.out k hlt 2 (by omega)))
      have hkz : (k : Int) < 6 := by omega
      unfold trF at c0 c1 c2
      obtain ⟨t, ht⟩ : ∃ t, t = triL.getD k trD := ⟨_, rfl⟩
      rw [← ht] at c0 c1 c2
      have Ht := Lib.hid ht
      have Hlt := Lib.hid hlt
      obtain ⟨x', y', z'⟩ := t
      dsimp only at c0 c1 c2
      have heq := fun (wq : World) => eqlA x y z x' y' z' wq
      clear ht
      by_cases e : (x, y, z) = (x', y', z')
      · have hd : decide ((x, y, z) = (x', y', z')) = true := decide_eq_true e
        rw [hd] at heq
        have He := Lib.hid e
        clear hd e
        go_wp2_with fail
        go_quiet (fail)
        go_wp2_with fail
        go_ret
        exact ⟨k, rfl, ⟨fun _ => by rw [He.out, Ht.out]; exact tr_mem Hlt.out, fun _ => by omega⟩, by omega, Hb0.out.trans (((hq.drewN nq).below _).mono Hb0.out.size)⟩
      · have hd : decide ((x, y, z) = (x', y', z')) = false := decide_eq_false e
        rw [hd] at heq
        have He := Lib.hid e
        clear hd e
        go_wp2_with fail
        go_quiet (fail)
        go_wp2_with fail
        go_roundg (6 - (k + 1))
        case measure => omega
        case rel =>
          refine ⟨k + 1, by omega, rfl, by go_num, hq.drewN nq, ?_⟩
          unfold Hid
          rw [tr_take Hlt.out, ← Ht.out]
          have h3 := hp.out
          simp only [List.mem_append, List.mem_singleton, not_or]
          exact ⟨h3, He.out⟩
    · go_wp2_with fail
      go_ret
      obtain rfl : k = 6 := by omega
      have h3 := hp.out
      exact ⟨-1, rfl, ⟨fun h => absurd h (by decide), fun h => absurd h h3⟩, by omega, Hb0.out.trans ((hq.below _).mono Hb0.out.size)⟩

theorem contains3_any (v : Value) (x y z : Int) (w : World) (h : RdT w v) :
    Calls Tryz.prog 58 #[v, .agg #[.int .i64 x, .int .i64 y, .int .i64 z]] w fun e w' => e = .returned (.bool (decide ((x, y, z) ∈ triL))) ∧ Below w.heap.size w w' := by
  have Hh := Lib.hid h
  obtain ⟨p, cap, rfl, _⟩ := h
  have hb0 := below_alloc w (.cells #[.int .i64 x, .int .i64 y, .int .i64 z] 89)
  have z0 : (w.alloc (.cells #[.int .i64 x, .int .i64 y, .int .i64 z] 89)).heap[w.heap.size]? = some (.cells #[.int .i64 x, .int .i64 y, .int .i64 z] 89 (0, 0)) := heap_alloc_top _ _
  have e0 := cell_of_blk z0 (j := 0) rfl
  have e1 := cell_of_blk z0 (j := 1) rfl
  have e2 := cell_of_blk z0 (j := 2) rfl
  have Hb0 := Lib.hid hb0
  clear z0 hb0
  go_enter Tryz.func58, Tryz.ntmps58
  go_wp2_with fail
  refine (index3_any _ x y z _ (Hh.out.below Hb0.out)).mono ?_
  rintro e w1 ⟨r, rfl, hr, hr1, hq⟩
  have Hr := Lib.hid hr
  clear hr
  go_wp2_with fail
  go_ret
  exact ⟨ret_bool (by rw [decide_eq_decide]; exact Hr.out), Hb0.out.trans (hq.mono Hb0.out.size)⟩

theorem info_tr : (Tryz.prog.info? 89).map (fun i => (i.zero, i.size, i.bytes)) = some (some (.agg #[.int .i64 0, .int .i64 0, .int .i64 0]), 3, 24) := by kernel_rfl
def trB : List Value := [.int .i64 0, .int .i64 0, .int .i64 0, .int .i64 1, .int .i64 1, .int .i64 1, .int .i64 0, .int .i64 1, .int .i64 2, .int .i64 1, .int .i64 2, .int .i64 0, .int .i64 2, .int .i64 0, .int .i64 1]
def trG (j : Nat) : Value := match j with
  | 0 => .int .i64 1
  | 1 => .int .i64 0
  | _ => .int .i64 3
set_option maxHeartbeats 2000000 in
theorem triples_any (w : World) : Calls Tryz.prog 39 #[.bool true] w fun e w' => ∃ u, e = .returned u ∧ OwnS w' w.heap.size w'.heap.size 89 3 u 6 trF ∧ Below w.heap.size w w' := by
  have Ho := Lib.hid (show OwnS (w.alloc (.cells trB.toArray 89)) w.heap.size (w.heap.size + 1) 89 3 (.slice (some ⟨w.heap.size, 0, none⟩) 5 5) 5 trF from
    ⟨trB, ⟨⟨rfl, .inr ⟨w.heap.size, 5, trB.toArray, rfl, Nat.le_refl _, heap_alloc_top w _, Nat.le_refl _, by decide, rfl, rfl⟩⟩, fun k hk => by simp [Value.ownBlock] at hk; omega⟩, fun i hi j hj => by
      have h1 : i = 0 ∨ i = 1 ∨ i = 2 ∨ i = 3 ∨ i = 4 := by omega
      have h2 : j = 0 ∨ j = 1 ∨ j = 2 := by omega
      rcases h1 with rfl | rfl | rfl | rfl | rfl <;> rcases h2 with rfl | rfl | rfl <;> rfl⟩)
  have Hb0 := Lib.hid (below_alloc2 w (.cells trB.toArray 89) (.cells #[.int .i64 1, .int .i64 0, .int .i64 3] 89))
  have Hsz := Lib.hid (show ((w.alloc (.cells trB.toArray 89)).alloc (.cells #[.int .i64 1, .int .i64 0, .int .i64 3] 89)).heap.size = w.heap.size + 1 + 1 by rw [size_alloc, size_alloc])
  have Hy := Lib.hid (show ∀ j, j < 3 → ((w.alloc (.cells trB.toArray 89)).alloc (.cells #[.int .i64 1, .int .i64 0, .int .i64 3] 89)).cell? ⟨w.heap.size + 1, j, none⟩ = some (trG j) from fun j hj => by
    have z0 : ((w.alloc (.cells trB.toArray 89)).alloc (.cells #[.int .i64 1, .int .i64 0, .int .i64 3] 89)).heap[w.heap.size + 1]? = some (.cells #[.int .i64 1, .int .i64 0, .int .i64 3] 89 (0, 0)) := heap_alloc_at _ _ (by rw [size_alloc])
    match j, hj with
    | 0, _ => exact cell_of_blk z0 (j := 0) rfl
    | 1, _ => exact cell_of_blk z0 (j := 1) rfl
    | 2, _ => exact cell_of_blk z0 (j := 2) rfl)
  go_enter Tryz.func39, Tryz.ntmps39
  go_wp2_with (at_builtin; go_must (refine wpList_append_S rfl (.tmp 11) (.tmp 13) 73 rfl 89 _ 3 24 Tryz.underlying73 info_tr rfl (by omega) w.heap.size (w.heap.size + 1) _ 5 trF rfl (Ho.out.below (below_alloc _ _)) (by have := Hsz.out; first | omega | (simp only [size_alloc]; omega)) _ _ trG rfl Hy.out (by decide) (by decide) (by decide) ?_; intro v' w' hv hg))
  go_ret
  have hg' : ((w.alloc (.cells trB.toArray 89)).alloc (.cells #[.int .i64 1, .int .i64 0, .int .i64 3] 89)).grownBy w' (Value.slice (some ⟨w.heap.size, 0, none⟩) 5 5).ownBlock := hg
  refine ⟨_, rfl, hv.congr fun i hi j hj => ?_, Hb0.out.trans (grownBy_below hg' (lo := w.heap.size) (hi := w.heap.size + 1) (fun k hk => by simp [Value.ownBlock] at hk; omega) (Nat.le_refl _) (by have := Hsz.out; omega))⟩
  by_cases e : i < 5
  · rw [if_pos e]
  · rw [if_neg e]
    obtain rfl : i = 5 := by omega
    match j, hj with
    | 0, _ => rfl
    | 1, _ => rfl
    | 2, _ => rfl

end Go.Proofs.YtnpghgpejnlebaaGreat
