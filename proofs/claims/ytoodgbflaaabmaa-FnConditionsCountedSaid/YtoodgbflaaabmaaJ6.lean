/-
  Many rows put behind others.
  slices.SortFunc of rows by their first places with a number.
  impl.reduced, walked.
-/
import Derived.Test.YtoodgbflaaabmaaJ5
import Derived.Test.YtoodgbflaaabmaaShelf
import Derived.Test.YtoodgbflaaabmaaJ3
namespace Go.Proofs.Ytoodgbflaaabmaa
set_option linter.all false
open Go.RowKit

/-- rows of their own (lo .. mid-1, then mid .. hi-1) stand one behind the other in a slice that an append made -/
theorem OwnII.join {Ts Ti : TypeId} {w w' : World} {lo mid hi : Nat} {v v' : Value} {rows rows2 : List (List Int)} {f g : Nat → Value}
    (g1 : OwnF w lo mid Ts v rows.length f) (g2 : ∀ i, i < rows.length → OwnI Ti w lo mid (f i) (rows.getD i []))
    (g3 : ∀ i j, i < j → j < rows.length → ∀ k, (f i).ownBlock = some k → (f j).ownBlock ≠ some k)
    (h2 : ∀ i, i < rows2.length → OwnI Ti w mid hi (g i) (rows2.getD i []))
    (h3 : ∀ i j, i < j → j < rows2.length → ∀ k, (g i).ownBlock = some k → (g j).ownBlock ≠ some k)
    (hm : lo ≤ mid) (hmh : mid ≤ hi) (hT : Ts ≠ Ti) (hg : w.grownBy w' v.ownBlock) (hsz : hi ≤ w'.heap.size)
    (hv : OwnF w' lo w'.heap.size Ts v' (rows.length + rows2.length) (fun j => if j < rows.length then f j else g (j - rows.length))) :
    OwnII Ts Ti w' lo w'.heap.size v' (rows ++ rows2) := by
  have hrow : ∀ (y : Value) (ys : List Int) (lo1 hi1 : Nat), OwnI Ti w lo1 hi1 y ys → OwnI Ti w' lo1 hi1 y ys := fun y ys lo1 hi1 hy =>
    ⟨ownsRow_of_block hy.1 fun k hk => hg.block k (Own.block hy hk).2.2 fun e => own_types g1 hy hT e.symm hk, hy.2⟩
  refine ⟨_, by rw [List.length_append]; exact hv, fun i hi => ?_, fun i j hij hj k hk => ?_⟩
  · rw [List.length_append] at hi
    by_cases hlt : i < rows.length
    · have e : (rows ++ rows2).getD i [] = rows.getD i [] := by simp [List.getD_eq_getElem?_getD, List.getElem?_append_left hlt]
      simp only [hlt, if_true]
      rw [e]
      exact (hrow _ _ _ _ (g2 i hlt)).mono (Nat.le_refl _) (by omega)
    · have e : (rows ++ rows2).getD i [] = rows2.getD (i - rows.length) [] := by
        simp [List.getD_eq_getElem?_getD, List.getElem?_append_right (Nat.le_of_not_lt hlt)]
      simp only [hlt, if_false]
      rw [e]
      exact (hrow _ _ _ _ (h2 _ (by omega))).mono hm hsz
  · rw [List.length_append] at hj
    by_cases hlt : j < rows.length
    · simp only [hlt, if_true]
      simp only [show i < rows.length by omega, if_true] at hk
      exact g3 i j hij hlt k hk
    · simp only [hlt, if_false]
      by_cases hil : i < rows.length
      · simp only [hil, if_true] at hk
        intro e
        have h5 := (Own.block (g2 i hil) hk).2.1
        have h6 := (Own.block (h2 _ (by omega)) e).1
        omega
      · simp only [hil, if_false] at hk
        exact h3 _ _ (by omega) (by omega) k hk

theorem OwnI.snoc1 {T : TypeId} {w : World} {lo hi : Nat} {v : Value} {out : List Int} {x : Int} (h : OwnF w lo hi T v (out.length + 1) (fun j => if j < out.length then iv out j else .int .i64 x)) : OwnI T w lo hi v (out ++ [x]) := by
  refine OwnF.ints ?_
  rw [List.length_append]
  exact h.congr fun j hj => by
    by_cases h : j < out.length
    · simp [h, iv, List.getD_eq_getElem?_getD, List.getElem?_append_left h]
    · have : j = out.length := by omega
      subst this
      simp [iv, List.getD_eq_getElem?_getD]

theorem flatMap_len {α : Type} (g : Nat → List α) (b : Nat) (h : ∀ x, (g x).length ≤ b) : ∀ n, ((List.range n).flatMap g).length ≤ n * b
  | 0 => by simp
  | n + 1 => by
    rw [List.range_succ, List.flatMap_append, List.length_append, Nat.succ_mul]
    have := flatMap_len g b h n
    have h2 := h n
    simp only [List.flatMap_cons, List.flatMap_nil, List.append_nil]
    omega

theorem flatMap_snoc {α : Type} (g : Nat → List α) (n : Nat) : (List.range (n + 1)).flatMap g = (List.range n).flatMap g ++ g n := by
  rw [List.range_succ, List.flatMap_append]
  simp

end Go.Proofs.Ytoodgbflaaabmaa

namespace Go.Proofs.Ytoodgbflaaabmaa
set_option linter.all false
open Go.RowKit

set_option maxRecDepth 100000 in
theorem cmpPiv_any (v u : Value) (xs ys : List Int) (w : World) (h : Ints w v xs) (h' : Ints w u ys) (hx : xs.length ≤ 1000) (hy : ys.length ≤ 1000) :
    Calls Try.prog 93 #[v, u] w fun e w' => e = .returned (.int .i64 (pivL xs - pivL ys)) ∧ Qt w w' := by
  have h1 := pivot_any v xs w h
  have h2 := fun W (hq : Qt w W) => pivot_any u ys W (h'.qt hq)
  have b1 : -1 ≤ pivL xs ∧ pivL xs ≤ 1000 := by
    rcases pivL_cases xs with ⟨e, _⟩ | ⟨k, e, hk, _⟩ <;> rw [e] <;> omega
  have b2 : -1 ≤ pivL ys ∧ pivL ys ≤ 1000 := by
    rcases pivL_cases ys with ⟨e, _⟩ | ⟨k, e, hk, _⟩ <;> rw [e] <;> omega
  generalize pivL xs = a at h1 b1 ⊢
  generalize pivL ys = b at h2 b2 ⊢
  obtain ⟨p, cap, rfl, _⟩ := h
  obtain ⟨p', cap', rfl, _⟩ := h'
  have H1 := Lib.hid h1
  have H2 := Lib.hid h2
  clear h1 h2
  go_enter Try.func93, Try.ntmps93
  go_wp2_with fail
  refine H1.out.mono ?_
  rintro e w1 ⟨rfl, hq⟩
  have Hq := Lib.hid hq
  clear hq
  go_wp2_with fail
  refine (H2.out _ Hq.out).mono ?_
  rintro e w2 ⟨rfl, hq2⟩
  have Hq2 := Lib.hid (Hq.out.trans hq2)
  clear hq2
  go_wp2_with fail
  go_ret
  exact ⟨rfl, Hq2.out⟩

open Go.Sort Go.Shelf in
theorem sortWorld_at {α : Type} [Inhabited α] (enc : α → Value) {w : World} {blk : Nat} {c : Array Value} {T : TypeId} (h : w.heap[blk]? = some (.cells c T (0, 0))) (m : Nat) (d : Array α) (os : Array Obj) :
    (sortWorld enc w blk 0 m d os).heap[blk]? = some (.cells (putCells enc 0 d c) T (0, 0)) := by
  have hlt : blk < w.heap.size := blk_lt h
  unfold sortWorld
  rw [heap_grow_old _ _ (by rw [size_putRow]; exact hlt)]
  unfold putRow mapBlock
  simp only [Array.getElem?_modify]
  have : (Sort.ahead w m).heap = w.heap := rfl
  rw [this, h]
  simp [onCells]
open Go.Sort Go.Shelf in
theorem sortWorld_other {α : Type} [Inhabited α] (enc : α → Value) {w : World} {blk k : Nat} (hk : k < w.heap.size) (hne : k ≠ blk) (m : Nat) (d : Array α) (os : Array Obj) :
    (sortWorld enc w blk 0 m d os).heap[k]? = w.heap[k]? := by
  unfold sortWorld
  rw [heap_grow_old _ _ (by rw [size_putRow]; exact hk)]
  unfold putRow mapBlock
  simp only [Array.getElem?_modify]
  have : (Sort.ahead w m).heap = w.heap := rfl
  rw [this, if_neg (fun e => hne e.symm)]
open Go.Sort Go.Shelf in
theorem sortWorld_size {α : Type} [Inhabited α] (enc : α → Value) (w : World) (blk m : Nat) (d : Array α) (os : Array Obj) :
    w.heap.size ≤ (sortWorld enc w blk 0 m d os).heap.size := by
  unfold sortWorld
  rw [size_grow, size_putRow]
  exact Nat.le_add_right _ _
open Go.Sort Go.Shelf in
theorem sortWorld_frm {α : Type} [Inhabited α] (enc : α → Value) (w : World) {blk lo hi : Nat} (h1 : lo ≤ blk) (h2 : blk < hi) (m : Nat) (d : Array α) (os : Array Obj) :
    Frm lo hi w (sortWorld enc w blk 0 m d os) :=
  ⟨rfl, rfl, rfl, sortWorld_size _ _ _ _ _ _, fun k hk ho => sortWorld_other enc hk (by omega) m d os⟩

theorem OwnI.at_block {T : TypeId} {w w' : World} {lo hi : Nat} {v : Value} {xs : List Int} (hy : OwnI T w lo hi v xs) (h : ∀ k, v.ownBlock = some k → w'.heap[k]? = w.heap[k]?) : OwnI T w' lo hi v xs :=
  ⟨ownsRow_of_block hy.1 fun k hk => h k hk, hy.2⟩

/-- the rows stand in another order, by their first places -/
def Sorted (rows : List (List Int)) (τ : Nat → Nat) : Prop :=
  (∀ i, i < rows.length → τ i < rows.length) ∧ (∀ i j, i < rows.length → j < rows.length → τ i = τ j → i = j) ∧ (∀ j, j < rows.length → ∃ i, i < rows.length ∧ τ i = j) ∧
  ∀ i j, i < j → j < rows.length → pivL (rows.getD (τ i) []) ≤ pivL (rows.getD (τ j) [])
def reL (rows : List (List Int)) (τ : Nat → Nat) : List (List Int) := (List.range rows.length).map fun i => rows.getD (τ i) []
theorem reL_length (rows : List (List Int)) (τ : Nat → Nat) : (reL rows τ).length = rows.length := by simp [reL]
theorem reL_getD {rows : List (List Int)} {τ : Nat → Nat} {i : Nat} (h : i < rows.length) : (reL rows τ).getD i [] = rows.getD (τ i) [] := by simp [reL, List.getD_eq_getElem?_getD, h]

open Go.Sort Go.Shelf in
theorem swo_piv (P : Nat → Int) : SWO (ltOf fun i j => P i - P j) where
  irrefl x := by simp [ltOf]
  trans x y z h1 h2 := by simp [ltOf] at *; omega
  ntrans x y z h1 h2 := by simp [ltOf] at *; omega

open Go.Sort Go.Shelf in
theorem sortRows_any (v : Value) (rows : List (List Int)) (lo hi : Nat) (w : World) (h : OwnII 24 3 w lo hi v rows) (hn : rows.length ≤ 1000) (hl : ∀ i, i < rows.length → (rows.getD i []).length ≤ 1000) (hhi : hi ≤ w.heap.size) :
    Calls Try.prog 92 #[v, .func (.func 93) #[] #[]] w fun e w' => e = .returned (.tuple #[]) ∧
      ∃ τ, Sorted rows τ ∧ OwnII 24 3 w' lo hi v (reL rows τ) ∧ Frm lo hi w w' := by
  obtain ⟨F, g1, g2, g3⟩ := h
  obtain ⟨p, cap, rfl, hnc, hcm, hp⟩ := g1.shape
  by_cases h0 : rows.length = 0
  · have hrows : rows = [] := List.eq_nil_of_length_eq_zero h0
    subst hrows
    have hcon := AnyF.slices_SortFunc_none (P := Try.prog) (ρ := Try.sortF_ren) { Try.sortF with } p cap (.func (.func 93) #[] #[]) w
    change Calls Try.prog 92 _ _ _ at hcon
    refine hcon.mono ?_
    rintro e w' ⟨rfl, rfl⟩
    exact ⟨rfl, id, ⟨fun i hi => hi, fun i j _ _ e => e, fun j hj => ⟨j, hj, rfl⟩, fun i j _ hj => absurd hj (by simp)⟩, ⟨F, g1, g2, g3⟩, Frm.refl _ _ _⟩
  · obtain ⟨g, rfl, hg1, hg2, hg3⟩ := hp (by omega)
    obtain ⟨G, hrow, hG, _, _, _, _, _⟩ := g1.opened
    have enter : ∀ args w, (callFunc 93 args).run Try.prog w = .ok (.enter 93 args) w := enters_of Try.func93 (by kernel_rfl) rfl
    obtain ⟨enc, henc⟩ : ∃ enc : Nat → Value, enc = fun i => if i < rows.length then F i else .slice none 0 0 := ⟨_, rfl⟩
    obtain ⟨R, hR⟩ : ∃ R : Nat → List Int, R = fun i => if i < rows.length then rows.getD i [] else [] := ⟨_, rfl⟩
    have hRl : ∀ i, (R i).length ≤ 1000 := fun i => by
      rw [hR]
      by_cases e : i < rows.length
      · simp only [e, if_true]; exact hl i e
      · simp [e]
    have hone : OneCell enc := fun i => by
      rw [henc]
      by_cases e : i < rows.length
      · simp only [e, if_true]
        obtain ⟨p1, k1, e1, _⟩ := (g2 i e).shape
        rw [e1]; rfl
      · simp only [e, if_false]; rfl
    have hnb : ∀ i, i < rows.length → ∀ k, (F i).ownBlock = some k → k ≠ g ∧ k < w.heap.size := fun i hi k hk => ⟨fun e => by
      subst e
      exact own_types g1 (g2 i hi) (by decide) rfl hk, (Own.block (g2 i hi) hk).2.2⟩
    have hcmp : CmpLays1 Try.prog 93 #[] enc (fun i j => pivL (R i) - pivL (R j)) g 0 (Array.range rows.length).size w := by
      refine CmpReads.lays fun m os dk _ x y => ?_
      have hI : ∀ i, Ints (sortWorld enc w g 0 m dk os) (enc i) (R i) := fun i => by
        rw [henc, hR]
        by_cases e : i < rows.length
        · simp only [e, if_true]
          exact ((g2 i e).at_block fun k hk => sortWorld_other _ (hnb i e k hk).2 (hnb i e k hk).1 m dk os).ints
        · simp only [e, if_false]
          exact ⟨none, 0, rfl, ⟨Nat.le_refl _, Nat.zero_le _⟩, fun h => absurd h (by simp)⟩
      exact cmpPiv_any (enc x) (enc y) (R x) (R y) _ (hI x) (hI y) (hRl x) (hRl y)
    have hH : Holds enc w g 0 (Array.range rows.length) := fun j hj => by
      rw [Array.size_range] at hj
      have e : (Array.range rows.length)[j]! = j := by rw [getElem!_pos _ j (by simpa using hj)]; simp
      rw [e, Nat.zero_add]
      refine ⟨?_, g1.frozen j⟩
      rw [g1.cell hj, henc]
      simp [hj]
    have hcon := Any.slices_SortFunc Try.sortF enc hone (fun i j => pivL (R i) - pivL (R j)) (swo_piv fun i => pivL (R i)) 93 #[] g 0 cap (Array.range rows.length) w enter hcmp hH hg3 (by rw [Array.size_range]; omega)
    change Calls Try.prog 92 _ _ _ at hcon
    rw [Array.size_range] at hcon
    refine hcon.mono ?_
    rintro e w' ⟨rfl, d', n, os, hp1, hs1, rfl⟩
    have hsz : d'.size = rows.length := by simpa using hp1.1
    have hperm : d'.toList.Perm (List.range rows.length) := by
      have h1 := hp1.2.2
      have e1 : d'.extract 0 rows.length = d' := by rw [← hsz]; simp
      have e2 : (Array.range rows.length).extract 0 rows.length = Array.range rows.length := by
        have := Array.extract_size (xs := Array.range rows.length)
        rwa [Array.size_range] at this
      rw [e1, e2] at h1
      simpa using h1
    have hat : ∀ i (hi : i < rows.length), d'[i]! = d'.toList[i]'(by simpa [hsz] using hi) := fun i hi => by
      rw [getElem!_pos d' i (by omega)]; simp
    have hlt : ∀ i, i < rows.length → d'[i]! < rows.length := fun i hi => by
      have : d'[i]! ∈ d'.toList := by rw [hat i hi]; exact List.getElem_mem _
      simpa using hperm.mem_iff.1 this
    have hRe : ∀ i, i < rows.length → R d'[i]! = rows.getD d'[i]! [] := fun i hi => by rw [hR]; simp only [hlt i hi, if_true]
    have hnd : d'.toList.Nodup := hperm.nodup_iff.2 List.nodup_range
    have hneq : ∀ i j, i < j → j < rows.length → d'[i]! ≠ d'[j]! := fun i j hij hj => by
      rw [hat i (by omega), hat j hj]
      exact (List.pairwise_iff_getElem.1 hnd) i j _ _ hij
    refine ⟨rfl, fun i => d'[i]!, ⟨hlt, fun i j hi hj e => ?_, fun j hj => ?_, fun i j hij hj => ?_⟩, ?_, sortWorld_frm enc w hg1 hg2 n d' os⟩
    · rcases Nat.lt_trichotomy i j with h | h | h
      · exact absurd e (hneq i j h hj)
      · exact h
      · exact absurd e.symm (hneq j i h hi)
    · have : j ∈ d'.toList := hperm.mem_iff.2 (by simpa using hj)
      obtain ⟨i, hi, e⟩ := List.mem_iff_getElem.1 this
      have hi' : i < rows.length := by simpa [hsz] using hi
      exact ⟨i, hi', by rw [← e]; exact hat i hi'⟩
    · have h1 := hs1 i j (Nat.zero_le _) hij hj
      simp only [ltOf, decide_eq_false_iff_not] at h1
      rw [hRe i (by omega), hRe j hj] at h1
      dsimp only
      omega
    · obtain ⟨c, hc1, hc2, hc3⟩ := hrow
      have hrow' : (sortWorld enc w g 0 n d' os).rowIs g 24 cap (fun k => if k < rows.length then F d'[k]! else G k) := by
        refine ⟨_, sortWorld_at enc hc1 n d' os, by simp [putCells, hc2], fun i hi => ?_⟩
        simp only [putCells, Array.getElem?_mapIdx, hc3 i hi, Option.map_some, Nat.zero_le, true_and, Nat.zero_add, Nat.sub_zero, hsz]
        by_cases e : i < rows.length
        · simp only [e, if_true]
          rw [henc]
          simp only [hlt i e, if_true]
        · simp only [e, if_false]
      refine ⟨fun k => F d'[k]!, ?_, fun i hi => ?_, fun i j hij hj k hk => ?_⟩
      · rw [reL_length]
        exact OwnF.mk' hrow' hg1 hg2 hnc hcm fun j hj => by simp only [hj, if_true]
      · rw [reL_length] at hi
        rw [reL_getD hi]
        exact (g2 _ (hlt i hi)).at_block fun k hk => sortWorld_other enc (hnb _ (hlt i hi) k hk).2 (hnb _ (hlt i hi) k hk).1 n d' os
      · rw [reL_length] at hj
        have h1 := hneq i j hij hj
        intro hk2
        rcases Nat.lt_or_gt_of_ne h1 with h2 | h2
        · exact g3 _ _ h2 (hlt j hj) k hk hk2
        · exact g3 _ _ h2 (hlt i (by omega)) k hk2 hk

end Go.Proofs.Ytoodgbflaaabmaa

namespace Go.Proofs.Ytoodgbflaaabmaa
set_option linter.all false
open Go.RowKit

theorem Red.piv {p : Int} {C : Nat} {out : List (List Int)} {q : Nat → Nat} (hr : Red p C out.length (mt out) q) (ho : RowsOk p C out) {i : Nat} (hi : i < out.length) : pivL (out.getD i []) = q i := by
  refine pivL_at (by rw [(ho i hi).1]; exact hr.lt i hi) ?_ fun j hj => hr.lead i j hi hj
  have := hr.unit i i hi hi
  rw [if_pos rfl] at this
  unfold mt at this
  rw [this]; decide
theorem OwnI.shapeC {T : TypeId} {w : World} {lo hi C : Nat} {v : Value} {xs : List Int} (h : OwnI T w lo hi v xs) (hl : xs.length = C) : ∃ p cap, v = .slice p C cap ∧ C ≤ cap ∧ cap ≤ maxLen := by
  subst hl; exact h.shape
theorem OwnI.shapeC' {T : TypeId} {w : World} {lo hi C : Nat} {v : Value} {xs : List Int} (h : OwnI T w lo hi v xs) (hl : xs.length = C) : ∃ p cap, v = .slice p C cap ∧ C ≤ cap ∧ cap ≤ maxLen := h.shapeC hl
theorem Ints.shapeC {w : World} {C : Nat} {v : Value} {xs : List Int} (h : Ints w v xs) (hl : xs.length = C) : ∃ p cap, v = .slice p C cap ∧ C ≤ cap ∧ cap ≤ maxLen := by
  subst hl
  obtain ⟨p, cap, e, ⟨h1, h2⟩, _⟩ := h
  exact ⟨p, cap, e, h1, h2⟩
theorem OwnF.cut {T : TypeId} {w : World} {lo hi C : Nat} {v : Value} {f : Nat → Value} {n : Nat} (h : OwnF w lo hi T v n f) (hl : n = C) : OwnF w lo hi T v C f := hl ▸ h

/-- one row of a list of lists has got other numbers -/
theorem rows_set {Ts Ti : TypeId} {w w' : World} {lo hi n i : Nat} {v : Value} {f : Nat → Value} {R : Nat → List Int} {new : List Int} (g1 : OwnF w lo hi Ts v n f) (g2 : ∀ j, j < n → OwnI Ti w lo hi (f j) (R j))
    (g3 : ∀ a b, a < b → b < n → ∀ k, (f a).ownBlock = some k → (f b).ownBlock ≠ some k) (hi' : i < n) (hg : w.grownBy w' (f i).ownBlock) (hT : Ts ≠ Ti) (hnew : OwnI Ti w' lo hi (f i) new) :
    OwnF w' lo hi Ts v n f ∧ ∀ j, j < n → OwnI Ti w' lo hi (f j) (if j = i then new else R j) := by
  refine ⟨g1.grown hg fun k hk e => own_types g1 (g2 i hi') hT hk e, fun j hj => ?_⟩
  by_cases e : j = i
  · subst e; rw [if_pos rfl]; exact hnew
  · rw [if_neg e]
    have hy := g2 j hj
    refine ⟨ownsRow_of_block hy.1 fun k hk => hg.block k (Own.block hy hk).2.2 fun e2 => ?_, hy.2⟩
    rcases Nat.lt_or_gt_of_ne e with h | h
    · exact g3 j i h hi' k hk e2.symm
    · exact g3 i j h hj k e2.symm hk

/-- the rows in the order of their columns -/
theorem red_sorted {p : Int} {C : Nat} {out : List (List Int)} {q τ : Nat → Nat} (hr : Red p C out.length (mt out) q) (ho : RowsOk p C out) (hτ : Sorted out τ) :
    RowsOk p C (reL out τ) ∧ Red p C (reL out τ).length (mt (reL out τ)) (fun i => q (τ i)) ∧ (∀ i k, i < k → k < (reL out τ).length → q (τ i) < q (τ k)) ∧ SameSp p C out.length (mt out) (reL out τ).length (mt (reL out τ)) := by
  obtain ⟨h1, h2, h3, h4⟩ := hτ
  have hm : ∀ i, i < out.length → mt (reL out τ) i = mt out (τ i) := fun i hi => by
    funext j
    unfold mt
    rw [reL_getD hi]
  have hinj : ∀ i k, i < out.length → k < out.length → q i = q k → i = k := fun i k hi hk e => by
    have a := hr.unit i k hi hk
    rw [← e, hr.unit i i hi hi, if_pos rfl] at a
    by_cases e2 : i = k
    · exact e2
    · rw [if_neg e2] at a; cases a
  rw [reL_length]
  refine ⟨fun i hi => ?_, ⟨fun i hi => hr.lt _ (h1 i hi), fun i k hi hk => ?_, fun i j hi hj => ?_⟩, fun i k hik hk => ?_, ?_⟩
  · rw [reL_length] at hi
    rw [reL_getD hi]; exact ho _ (h1 i hi)
  · rw [hm i hi, hr.unit _ _ (h1 i hi) (h1 k hk)]
    by_cases e : i = k
    · subst e; simp
    · rw [if_neg e, if_neg fun e2 => e (h2 i k hi hk e2)]
  · rw [hm i hi]; exact hr.lead _ j (h1 i hi) hj
  · have a := h4 i k hik hk
    rw [hr.piv ho (h1 i (by omega)), hr.piv ho (h1 k hk)] at a
    have b : q (τ i) ≠ q (τ k) := fun e => by
      have := h2 i k (by omega) hk (hinj _ _ (h1 i (by omega)) (h1 k hk) e)
      omega
    omega
  · refine SameSp.perm (fun j => if h : j < out.length then (h3 j h).choose else 0) τ (fun j hj => ?_) fun i hi => ⟨h1 i hi, by rw [hm i hi]; exact .refl _ _ _⟩
    simp only [hj, dif_pos]
    obtain ⟨a, b⟩ := (h3 j hj).choose_spec
    exact ⟨a, by rw [hm _ a, b]; exact .refl _ _ _⟩

/-- what impl.reduced returns: the reduced form of what the rows span -/
def RetRed (w : World) (p : Int) (C : Nat) (src : List (List Int)) (e : Ending) (w' : World) : Prop :=
  ∃ (u : Value) (L : List (List Int)) (q : Nat → Nat), e = .returned u ∧ OwnII 24 3 w' w.heap.size w'.heap.size u L ∧ Below w.heap.size w w' ∧ RowsOk p C L ∧ Red p C L.length (mt L) q ∧
    (∀ i k, i < k → k < L.length → q i < q k) ∧ SameSp p C src.length (mt src) L.length (mt L) ∧ L.length ≤ src.length

set_option maxRecDepth 100000 in
set_option maxHeartbeats 4000000 in
theorem reduced_any (v : Value) (rows : List (List Int)) (C : Nat) (p : Int) (w : World) (h : RdII w v rows) (hok : RowsOk p C rows) (hp : primeOk p = true) (hn : rows.length ≤ 100) (hC : C ≤ 100) :
    Calls Try.prog 79 #[v, .int .i64 p] w (RetRed w p C rows) := by
  obtain ⟨f, ⟨p0, cap, rfl, ⟨hx1, hx⟩, hxc⟩, hf⟩ := h
  unfold maxLen at hx
  obtain ⟨hp2, hp7⟩ := primeOk_range hp
  have Hf := Lib.hid hf
  have Hok := Lib.hid hok
  have Hp := Lib.hid hp
  clear hf hok hp
  go_enter Try.func79, Try.ntmps79
  go_wp2_with fail
  go_loopg [5, 17] rows.length (fun g s5 i wr => ∃ (k : Nat) (out : List (List Int)) (q : Nat → Nat), k ≤ rows.length ∧ g = rows.length - k ∧ i = .int .i64 k ∧ Below w.heap.size w wr ∧ out.length ≤ k ∧
    Hid (RowsOk p C out) ∧ Hid (Red p C out.length (mt out) q) ∧ Hid (SameSp p C k (mt rows) out.length (mt out)) ∧ Hid (OwnII 24 3 wr w.heap.size wr.heap.size s5 out))
  case atStart =>
    refine ⟨0, [], fun _ => 0, Nat.zero_le _, rfl, rfl, below_alloc _ _, Nat.le_refl _, fun i hi => absurd hi (by simp), ⟨fun i hi => absurd hi (by simp), fun i k hi => absurd hi (by simp), fun i j hi => absurd hi (by simp)⟩,
      ⟨fun i hi => absurd hi (Nat.not_lt_zero _), fun i hi => absurd hi (by simp)⟩, ⟨fun _ => undef, (OwnF.made0 w _ _).mono (Nat.le_refl _) (by simp), fun i hi => absurd hi (by simp), fun i j _ hj => absurd hj (by simp)⟩⟩
  case round =>
    obtain ⟨k, out, q, hk, rfl, rfl, hb, hnk, hro, hrd, hss, ho⟩ := hrel
    obtain ⟨wo, rfl⟩ : ∃ x : World, x = wr := ⟨_, rfl⟩
    obtain ⟨F, g1, g2, g3⟩ := ho.out
    obtain ⟨p5, k5, rfl, hn5, hk5, _⟩ := g1.shape
    unfold maxLen at hk5
    by_cases hlt : k < rows.length
    · obtain ⟨b, off, rfl, hc⟩ := hxc (by omega)
      have c1 := cell_below hb (hc k hlt)
      have hrk := Hok.out k hlt
      have I1 := Lib.hid ((Hf.out k hlt).below hb)
      obtain ⟨p1, k1, e1, hn1, hk1⟩ := (Hf.out k hlt).shapeC hrk.1
      unfold maxLen at hk1
      obtain ⟨r, hr⟩ : ∃ r, r = rows.getD k [] := ⟨_, rfl⟩
      rw [← hr] at hrk I1
      have Hrk := Lib.hid hrk
      have Hr := Lib.hid hr
      rw [e1] at c1 I1
      have G1 := Lib.hid g1
      have G2 := Lib.hid g2
      have G3 := Lib.hid g3
      have hrl := hrk.1
      have Hb := Lib.hid hb
      clear hc e1 hr hrk ho g1 g2 g3
      go_wp2_with fail
      refine (clone_any _ r _ I1.out (by omega)).mono ?_
      rintro e wc ⟨u, rfl, ho2, hb2⟩
      have hs2 := hb2.size
      obtain ⟨p2, k2, rfl, hn2, hk2⟩ := ho2.shapeC hrl
      unfold maxLen at hk2
      have Ho2 := Lib.hid ho2
      have Hb2 := Lib.hid hb2
      have Hrl := Lib.hid hrl
      clear ho2 hb2 hrl c1
      go_wp2_with fail
      go_loopg [10, 25] out.length (fun g s10 i wx => ∃ (t : Nat) (cur : List Int), t ≤ out.length ∧ g = out.length - t ∧ i = .int .i64 t ∧ Hid (Below wo.heap.size wo wx) ∧ wc.heap.size ≤ wx.heap.size ∧
        Hid (OwnI 3 wx wo.heap.size wc.heap.size (.slice p2 C k2) cur) ∧ Hid (El p C out q r cur t))
      case atStart => exact ⟨0, r, Nat.zero_le _, rfl, rfl, Hb2.out, Nat.le_refl _, Ho2.out, El.start Hrk.out⟩
      case round =>
        obtain ⟨t, cur, ht, rfl, rfl, hbx, hsx, hox, hel⟩ := hrel
        by_cases htl : t < out.length
        · obtain ⟨wx, rfl⟩ : ∃ x : World, x = wr := ⟨_, rfl⟩
          obtain ⟨g5, rfl, _, _, _⟩ := G1.out.at_ (by omega)
          have c5 := (G1.out.below hbx.out).cell htl
          have hrt := hro.out t htl
          have hIt := (G2.out t htl).below hbx.out
          obtain ⟨pt, kt, et, hnt, hkt⟩ := hIt.shapeC' hrt.1
          unfold maxLen at hkt
          rw [et] at c5 hIt
          have hqt := hrd.out.lt t htl
          have hpv := pivot_any _ _ wx hIt.ints
          rw [hrd.out.piv hro.out htl] at hpv
          have hcl := hel.out.ok.1
          have hox1 := hox.out.fn.cut hcl
          obtain ⟨g2, rfl, hg2a, hg2b, hg2c⟩ := hox1.at_ (by omega)
          have c2 := hox1.cell hqt
          obtain ⟨y, hy⟩ : ∃ y, y = cur.getD (q t) 0 := ⟨_, rfl⟩
          have hyr := hel.out.ok.2 (q t)
          rw [← hy] at hyr
          unfold iv at c2
          rw [← hy] at c2
          have hne : ∀ b, (Value.slice (some ⟨g2, 0, none⟩) C k2).ownBlock = some b → (Value.slice pt C kt).ownBlock ≠ some b := fun b hb e => by
            have h1 := Own.block hIt e
            have h2 := Own.block hox.out hb
            have h3 := h1.2.1
            have h4 := h2.1
            omega
          obtain ⟨Q, hQ⟩ : ∃ Q, Q = q t := ⟨_, rfl⟩
          rw [← hQ] at hqt hpv c2
          have Hst := Lib.hid (hel.out.step hp2 hrd.out htl)
          have Hpv := Lib.hid hpv
          have C2 := Lib.hid c2
          have HIt := Lib.hid hIt
          have Hox := Lib.hid hox.out
          have Hcur := Lib.hid hel.out.ok
          have Hrt := Lib.hid hrt
          have Hne := Lib.hid hne
          have Hy := Lib.hid hy
          have HQ := Lib.hid hQ
          clear hpv c2 hIt hox hox1 hel hrt hne hy et hQ
          go_wp2_with fail
          refine Hpv.out.mono ?_
          rintro e wy ⟨rfl, hq⟩
          have c2 := hq.cell C2.out
          have Hq := Lib.hid hq
          clear hq
          go_wp2_with fail
          refine (addRow_any _ _ cur (out.getD t []) (p - y) p wo.heap.size wc.heap.size _ (Hox.out.below (Hq.out.below _)) (HIt.out.ints.qt Hq.out) Hne.out (by rw [hcl, Hrt.out.1]; exact Nat.le_refl _) (Hcur.out.small hp7) (Hrt.out.small hp7) (by omega) (by omega)).mono ?_
          rintro e wz ⟨rfl, hoz, hgz⟩
          have Hoz := Lib.hid hoz
          have Hgz := Lib.hid (grown_qt Hq.out hgz)
          clear hoz hgz c2 c5
          go_wp2_with fail
          go_roundg (out.length - (t + 1))
          case measure => omega
          case rel =>
            have hst := Hst.out
            rw [← Hy.out] at hst
            have hsz := Hgz.out.size
            refine ⟨t + 1, _, by omega, rfl, by go_num, hbx.out.trans (grownBy_below Hgz.out Hox.out.fn.blocks (Nat.le_refl _) hbx.out.size), by omega, Hoz.out, hst⟩
        · obtain rfl : t = out.length := by omega
          have hcl := hel.out.ok.1
          have hpv := pivot_any _ _ wr hox.out.ints
          rcases pivL_cases cur with ⟨hp1, h0⟩ | ⟨K, hp1, hK, hKn, hK0⟩
          · rw [hp1] at hpv
            have Hpv := Lib.hid hpv
            have Hnew := Lib.hid (hel.out.none h0)
            clear hpv h0 hel
            go_wp2_with fail
            refine Hpv.out.mono ?_
            rintro e wy ⟨rfl, hq⟩
            have Hq := Lib.hid hq
            clear hq
            go_wp2_with fail
            go_roundg (rows.length - (k + 1))
            case measure => omega
            case rel =>
              have hbw : Below wo.heap.size wo wy := hbx.out.trans (Hq.out.below _)
              have hsz := hbw.size
              have hsb := Hb.out.size
              refine ⟨k + 1, out, q, by omega, rfl, by go_num, Hb.out.trans (hbw.mono hsb), by omega, hro.out, hrd.out, ?_, ?_⟩
              · refine (SameSp.snoc (M'' := mt (out ++ [r])) hss.out ?_ fun i hi => by rw [mt_snoc_lt hi]; exact .refl _ _ _).trans Hnew.out
                rw [mt_snoc_at, Hr.out]; exact .refl _ _ _
              · exact OwnII.mono (OwnII.below ⟨F, G1.out, G2.out, G3.out⟩ hbw) (Nat.le_refl _) hsz
          · rw [hp1] at hpv
            have Hpv := Lib.hid hpv
            have Hel := Lib.hid hel.out
            have Hox := Lib.hid hox.out
            have HKn := Lib.hid hKn
            have HK0 := Lib.hid hK0
            have Hp1 := Lib.hid hp1
            have hKC : K < C := by omega
            clear hpv hel hox hKn hK0 hp1
            go_wp2_with fail
            refine Hpv.out.mono ?_
            rintro e wy ⟨rfl, hq⟩
            have Hq := Lib.hid hq
            clear hq
            go_wp2_with fail
            refine (scaledTo1_any _ cur p K wo.heap.size wc.heap.size _ (Hox.out.below (Hq.out.below _)) Hel.out.ok.2 Hp.out Hp1.out hK HKn.out).mono ?_
            rintro e wz ⟨k0, rfl, hka, hkb, hkc, hoz, hgz⟩
            have hmore := Hel.out.more hp2 hrd.out hro.out hKC HK0.out HKn.out hkc
            have hsl : (scaleL p k0 cur).length = C := by rw [scaleL_length]; exact hcl
            have hs1 : pivL (scaleL p k0 cur) = K := pivL_at (by omega) (by rw [scaleL_getD hK, hkc]; decide) fun j hj => by rw [scaleL_getD (by omega), HK0.out j hj, Int.mul_zero]; rfl
            have hsok : RowOk p C (scaleL p k0 cur) := scaleL_ok hp2 hcl
            generalize scaleL p k0 cur = s at *
            have hbz : Below wo.heap.size wo wz := hbx.out.trans ((Hq.out.below _).trans (by have := Hq.out.size; have := hbx.out.size; exact grownBy_below hgz (fun b hb => ⟨(Own.block hoz hb).1, (Own.block hoz hb).2.1⟩) (Nat.le_refl _) (by omega)))
            have hpz := pivot_any _ _ wz hoz.ints
            rw [hs1] at hpz
            have Hpz := Lib.hid hpz
            have Hmore := Lib.hid hmore
            have Hoz := Lib.hid hoz
            have Hbz := Lib.hid hbz
            have Hsok := Lib.hid hsok
            have hsz := hbz.size
            have hcz : wc.heap.size ≤ wz.heap.size := by have := hgz.size; have := Hq.out.size; omega
            clear hpz hmore hoz hbz hgz hkc hs1 hsok
            go_wp2_with fail
            refine Hpz.out.mono ?_
            rintro e ws ⟨rfl, hq⟩
            have hqs := hq.size
            have Hq2 := Lib.hid hq
            clear hq
            go_wp2_with fail
            have hbs : Below wo.heap.size wo ws := Hbz.out.trans (Hq2.out.below _)
            have Hbs := Lib.hid hbs
            have Hos := Lib.hid (Hoz.out.below (Hq2.out.below _))
            clear hbs
            go_loopg [13, 51] out.length (fun g s13 i wx => ∃ t : Nat, t ≤ out.length ∧ g = out.length - t ∧ i = .int .i64 t ∧ Hid (Frm w.heap.size wo.heap.size ws wx) ∧
              Hid (OwnF wx w.heap.size wo.heap.size 24 (.slice p5 out.length k5) out.length F ∧ ∀ i, i < out.length → OwnI 3 wx w.heap.size wo.heap.size (F i) ((clearL p K out s t).getD i [])))
            case atStart => exact ⟨0, Nat.zero_le _, rfl, rfl, Frm.refl _ _ _, G1.out.below Hbs.out, fun i hi => by rw [clearL_zero]; exact (G2.out i hi).below Hbs.out⟩
            case round =>
              obtain ⟨t, ht, rfl, rfl, hfx, hgx⟩ := hrel
              by_cases htl : t < out.length
              · obtain ⟨wx, rfl⟩ : ∃ x : World, x = wr := ⟨_, rfl⟩
                obtain ⟨g5, rfl, _, _, _⟩ := hgx.out.1.at_ (by omega)
                have c5 := hgx.out.1.cell htl
                have hIt := hgx.out.2 t htl
                rw [clearL_getD htl, if_neg (Nat.lt_irrefl t)] at hIt
                have hrt := hro.out t htl
                obtain ⟨pt, kt, et, hnt, hkt⟩ := hIt.shapeC hrt.1
                unfold maxLen at hkt
                rw [et] at c5 hIt
                have hIt1 := hIt.fn.cut hrt.1
                obtain ⟨gt, rfl, _, _, _⟩ := hIt1.at_ (by omega)
                have c2 := hIt1.cell hKC
                obtain ⟨y, hy⟩ : ∃ y, y = (out.getD t []).getD K 0 := ⟨_, rfl⟩
                have hyr := hrt.2 K
                unfold iv at c2
                rw [← hy] at hyr c2
                have hos := Hos.out.frm hfx.out (.inr (Nat.le_refl _))
                have hne : ∀ b, (Value.slice (some ⟨gt, 0, none⟩) C kt).ownBlock = some b → (Value.slice p2 C k2).ownBlock ≠ some b := fun b hb e => by
                  have h1 := Own.block hIt hb
                  have h2 := Own.block hos e
                  have h3 := h1.2.1
                  have h4 := h2.1
                  omega
                have HIt := Lib.hid hIt
                have Hosx := Lib.hid hos
                have Hrt := Lib.hid hrt
                have Hne := Lib.hid hne
                have Hy := Lib.hid hy
                have Het := Lib.hid et
                clear hIt hIt1 hos hrt hne hy et
                go_wp2_with fail
                refine (addRow_any _ _ (out.getD t []) s (p - y) p w.heap.size wo.heap.size _ HIt.out Hosx.out.ints Hne.out (by rw [hsl, Hrt.out.1]; exact Nat.le_refl _) (Hrt.out.small hp7) (Hsok.out.small hp7) (by omega) (by omega)).mono ?_
                rintro e wz2 ⟨rfl, hoz, hgz⟩
                have Hoz2 := Lib.hid hoz
                have Hgz := Lib.hid hgz
                clear hoz hgz c2 c5
                go_wp2_with fail
                go_roundg (out.length - (t + 1))
                case measure => omega
                case rel =>
                  refine ⟨t + 1, by omega, rfl, by go_num, hfx.out.trans (grownBy_frm Hgz.out fun b hb => ⟨(Own.block HIt.out hb).1, (Own.block HIt.out hb).2.1⟩), ?_⟩
                  have hset := rows_set (R := fun i => (clearL p K out s t).getD i []) hgx.out.1 hgx.out.2 G3.out htl (by rw [Het.out]; exact Hgz.out) (by decide) (by rw [Het.out]; exact Hoz2.out)
                  refine ⟨hset.1, fun i hi => ?_⟩
                  have := hset.2 i hi
                  rw [clearL_getD hi]
                  by_cases e : i = t
                  · subst e
                    rw [if_pos rfl] at this
                    rw [if_pos (by omega), ← Hy.out]
                    exact this
                  · rw [if_neg e, clearL_getD hi] at this
                    by_cases e2 : i < t
                    · rw [if_pos (by omega)]; rwa [if_pos e2] at this
                    · rw [if_neg (by omega)]; rwa [if_neg e2] at this
              · obtain rfl : t = out.length := by omega
                obtain ⟨wx, rfl⟩ : ∃ x : World, x = wr := ⟨_, rfl⟩
                have hos := Hos.out.frm hfx.out (.inr (Nat.le_refl _))
                obtain ⟨out', hout'⟩ : ∃ o, o = clearL p K out s out.length := ⟨_, rfl⟩
                have hmore := Hmore.out
                rw [← hout'] at hmore hgx
                have hlo : out'.length = out.length := by rw [hout', clearL_length]
                have K1 := Lib.hid (hgx.out.1.cut hlo.symm)
                have K2 := Lib.hid (fun i (hi : i < out'.length) => hgx.out.2 i (by omega))
                have K3 := Lib.hid (fun i j (hij : i < j) (hj : j < out'.length) => G3.out i j hij (by omega))
                have Hosx := Lib.hid hos
                have Hmore2 := Lib.hid hmore
                have hsx := hfx.out.size
                have hsb := Hb.out.size
                have Hbd1 := Lib.hid (show out'.length + 1 ≤ maxLen by unfold maxLen; omega)
                have Hbd2 := Lib.hid (show (out'.length + 1) * 24 ≤ 140737488355328 by omega)
                clear hos hmore hgx hout'
                go_wp2_with (at_builtin; go_must (refine wpList_append_F rfl (.tmp 66) (.tmp 68) 42 rfl 24 (.slice none 0 0) 24 Try.underlying42 info_sl rfl w.heap.size wo.heap.size _ out'.length F rfl (K1.out.below (below_alloc _ _)) (by simp; omega) (by simp; omega) _ _ _ rfl (rd_one _ _ _ rfl) (fun j _ => rfl) Hbd1.out Hbd2.out ?_; intro v' w' ho' hg'))
                have hsw' := hg'.size
                simp only [size_alloc] at hsw'
                have hbw : Below w.heap.size w w' := Hb.out.trans ((Hbs.out.mono hsb).trans ((hfx.out.below (Nat.le_refl _) (by omega)).trans (((below_alloc wx _).mono (by omega)).trans (grownBy_below hg' K1.out.blocks (Nat.le_refl _) (by simp; omega)))))
                go_roundg (rows.length - (k + 1))
                case measure => omega
                case rel =>
                  have e3 : (out' ++ [s]).length = out.length + 1 := by simp [hlo]
                  refine ⟨k + 1, out' ++ [s], _, by omega, rfl, by go_num, hbw, by omega, Hmore2.out.2.1, by rw [e3]; exact Hmore2.out.1, ?_, ?_⟩
                  · rw [e3]
                    refine (SameSp.snoc (M'' := mt (out ++ [r])) hss.out ?_ fun i hi => by rw [mt_snoc_lt hi]; exact .refl _ _ _).trans Hmore2.out.2.2
                    rw [mt_snoc_at, Hr.out]; exact .refl _ _ _
                  · exact OwnII.snoc (K1.out.below (below_alloc _ _)) (fun i hi => (K2.out i hi).below (below_alloc _ _)) K3.out ((Hosx.out.mono (Nat.le_refl _) (show wc.heap.size ≤ w'.heap.size by omega)).below (below_alloc _ _)) hsb (by omega) (by decide) hg' (Nat.le_refl _) ho'
    · obtain rfl : k = rows.length := by omega
      clear g1 g2 g3 hxc
      go_wp2_with fail
      refine (sortRows_any _ out w.heap.size wo.heap.size _ ho.out (by omega) (fun i hi => by have := (hro.out i hi).1; omega) (Nat.le_refl _)).mono ?_
      rintro e w2 ⟨rfl, τ, hτ, ho2, hf2⟩
      have Ho2 := Lib.hid ho2
      have Hf2 := Lib.hid hf2
      have Hτ := Lib.hid hτ
      clear ho2 hf2 hτ
      go_wp2_with fail
      go_ret
      have hs := hb.size
      have hz := Hf2.out.size
      obtain ⟨t1, t2, t3, t4⟩ := red_sorted hrd.out hro.out Hτ.out
      exact ⟨_, reL out τ, fun i => q (τ i), rfl, Ho2.out.mono (Nat.le_refl _) hz, hb.trans (Hf2.out.below (Nat.le_refl _) hs), t1, t2, t3, hss.out.trans t4, by rw [reL_length]; exact hnk⟩

end Go.Proofs.Ytoodgbflaaabmaa
