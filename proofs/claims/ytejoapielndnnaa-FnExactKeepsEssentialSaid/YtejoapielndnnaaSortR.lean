/-
  slices.SortFunc of rows by their first places with a number.
-/
import Derived.Test.YtejoapielndnnaaShelf
import Derived.Test.YtejoapielndnnaaRedP
import Derived.Test.YtejoapielndnnaaApp3
namespace Go.Proofs.Ytejoapielndnnaa
set_option linter.all false
open Go.RowKit

set_option maxRecDepth 100000 in
theorem cmpPiv_any (v u : Value) (xs ys : List Int) (w : World) (h : Ints w v xs) (h' : Ints w u ys) (hx : xs.length ≤ 1000) (hy : ys.length ≤ 1000) :
    Calls Try.prog 94 #[v, u] w fun e w' => e = .returned (.int .i64 (pivL xs - pivL ys)) ∧ Qt w w' := by
  have h1 := pivot_any v xs w h
  have h2 := fun W (hq : Qt w W) => pivot_any u ys W (h'.qt hq)
  have b1 : -1 ≤ pivL xs ∧ pivL xs ≤ 1000 := by
    rcases pivL_cases xs with ⟨e, _⟩ | ⟨k, e, hk, _⟩ <;> rw [e] <;> omega
  have b2 : -1 ≤ pivL ys ∧ pivL ys ≤ 1000 := by
    rcases pivL_cases ys with ⟨e, _⟩ | ⟨k, e, hk, _⟩ <;> rw [e] <;> omega
  generalize pivL xs = a at h1 b1 ⊢
  generalize pivL ys = b at h2 b2 ⊢
  obtain ⟨p, cap, rfl, _⟩ := h
  obtain ⟨p', cap', rfl, _⟩ := h'
  have H1 := Lib.hid h1
  have H2 := Lib.hid h2
  clear h1 h2
  go_enter Try.func94, Try.ntmps94
  go_wp2_with fail
  refine H1.out.mono ?_
  rintro e w1 ⟨rfl, hq⟩
  have Hq := Lib.hid hq
  clear hq
  go_wp2_with fail
  refine (H2.out _ Hq.out).mono ?_
  rintro e w2 ⟨rfl, hq2⟩
  have Hq2 := Lib.hid (Hq.out.trans hq2)
  clear hq2
  go_wp2_with fail
  go_ret
  exact ⟨rfl, Hq2.out⟩

open Go.Sort Go.Shelf in
theorem sortWorld_at {α : Type} [Inhabited α] (enc : α → Value) {w : World} {blk : Nat} {c : Array Value} {T : TypeId} (h : w.heap[blk]? = some (.cells c T (0, 0))) (m : Nat) (d : Array α) (os : Array Obj) :
    (sortWorld enc w blk 0 m d os).heap[blk]? = some (.cells (putCells enc 0 d c) T (0, 0)) := by
  have hlt : blk < w.heap.size := blk_lt h
  unfold sortWorld
  rw [heap_grow_old _ _ (by rw [size_putRow]; exact hlt)]
  unfold putRow mapBlock
  simp only [Array.getElem?_modify]
  have : (Sort.ahead w m).heap = w.heap := rfl
  rw [this, h]
  simp [onCells]
open Go.Sort Go.Shelf in
theorem sortWorld_other {α : Type} [Inhabited α] (enc : α → Value) {w : World} {blk k : Nat} (hk : k < w.heap.size) (hne : k ≠ blk) (m : Nat) (d : Array α) (os : Array Obj) :
    (sortWorld enc w blk 0 m d os).heap[k]? = w.heap[k]? := by
  unfold sortWorld
  rw [heap_grow_old _ _ (by rw [size_putRow]; exact hk)]
  unfold putRow mapBlock
  simp only [Array.getElem?_modify]
  have : (Sort.ahead w m).heap = w.heap := rfl
  rw [this, if_neg (fun e => hne e.symm)]
open Go.Sort Go.Shelf in
theorem sortWorld_size {α : Type} [Inhabited α] (enc : α → Value) (w : World) (blk m : Nat) (d : Array α) (os : Array Obj) :
    w.heap.size ≤ (sortWorld enc w blk 0 m d os).heap.size := by
  unfold sortWorld
  rw [size_grow, size_putRow]
  exact Nat.le_add_right _ _
open Go.Sort Go.Shelf in
theorem sortWorld_frm {α : Type} [Inhabited α] (enc : α → Value) (w : World) {blk lo hi : Nat} (h1 : lo ≤ blk) (h2 : blk < hi) (m : Nat) (d : Array α) (os : Array Obj) :
    Frm lo hi w (sortWorld enc w blk 0 m d os) :=
  ⟨rfl, rfl, rfl, sortWorld_size _ _ _ _ _ _, fun k hk ho => sortWorld_other enc hk (by omega) m d os⟩

theorem OwnI.at_block {T : TypeId} {w w' : World} {lo hi : Nat} {v : Value} {xs : List Int} (hy : OwnI T w lo hi v xs) (h : ∀ k, v.ownBlock = some k → w'.heap[k]? = w.heap[k]?) : OwnI T w' lo hi v xs :=
  ⟨ownsRow_of_block hy.1 fun k hk => h k hk, hy.2⟩

/-- the rows stand in another order, by their first places -/
def Sorted (rows : List (List Int)) (τ : Nat → Nat) : Prop :=
  (∀ i, i < rows.length → τ i < rows.length) ∧ (∀ i j, i < rows.length → j < rows.length → τ i = τ j → i = j) ∧ (∀ j, j < rows.length → ∃ i, i < rows.length ∧ τ i = j) ∧
  ∀ i j, i < j → j < rows.length → pivL (rows.getD (τ i) []) ≤ pivL (rows.getD (τ j) [])
def reL (rows : List (List Int)) (τ : Nat → Nat) : List (List Int) := (List.range rows.length).map fun i => rows.getD (τ i) []
theorem reL_length (rows : List (List Int)) (τ : Nat → Nat) : (reL rows τ).length = rows.length := by simp [reL]
theorem reL_getD {rows : List (List Int)} {τ : Nat → Nat} {i : Nat} (h : i < rows.length) : (reL rows τ).getD i [] = rows.getD (τ i) [] := by simp [reL, List.getD_eq_getElem?_getD, h]

open Go.Sort Go.Shelf in
theorem swo_piv (P : Nat → Int) : SWO (ltOf fun i j => P i - P j) where
  irrefl x := by simp [ltOf]
  trans x y z h1 h2 := by simp [ltOf] at *; omega
  ntrans x y z h1 h2 := by simp [ltOf] at *; omega

open Go.Sort Go.Shelf in
theorem sortRows_any (v : Value) (rows : List (List Int)) (lo hi : Nat) (w : World) (h : OwnII 22 3 w lo hi v rows) (hn : rows.length ≤ 1000) (hl : ∀ i, i < rows.length → (rows.getD i []).length ≤ 1000) (hhi : hi ≤ w.heap.size) :
    Calls Try.prog 93 #[v, .func (.func 94) #[] #[]] w fun e w' => e = .returned (.tuple #[]) ∧
      ∃ τ, Sorted rows τ ∧ OwnII 22 3 w' lo hi v (reL rows τ) ∧ Frm lo hi w w' := by
  obtain ⟨F, g1, g2, g3⟩ := h
  obtain ⟨p, cap, rfl, hnc, hcm, hp⟩ := g1.shape
  by_cases h0 : rows.length = 0
  · have hrows : rows = [] := List.eq_nil_of_length_eq_zero h0
    subst hrows
    have hcon := AnyF.slices_SortFunc_none (P := Try.prog) (ρ := Try.sortF_ren) { Try.sortF with } p cap (.func (.func 94) #[] #[]) w
    change Calls Try.prog 93 _ _ _ at hcon
    refine hcon.mono ?_
    rintro e w' ⟨rfl, rfl⟩
    exact ⟨rfl, id, ⟨fun i hi => hi, fun i j _ _ e => e, fun j hj => ⟨j, hj, rfl⟩, fun i j _ hj => absurd hj (by simp)⟩, ⟨F, g1, g2, g3⟩, Frm.refl _ _ _⟩
  · obtain ⟨g, rfl, hg1, hg2, hg3⟩ := hp (by omega)
    obtain ⟨G, hrow, hG, _, _, _, _, _⟩ := g1.opened
    have enter : ∀ args w, (callFunc 94 args).run Try.prog w = .ok (.enter 94 args) w := enters_of Try.func94 (by kernel_rfl) rfl
    obtain ⟨enc, henc⟩ : ∃ enc : Nat → Value, enc = fun i => if i < rows.length then F i else .slice none 0 0 := ⟨_, rfl⟩
    obtain ⟨R, hR⟩ : ∃ R : Nat → List Int, R = fun i => if i < rows.length then rows.getD i [] else [] := ⟨_, rfl⟩
    have hRl : ∀ i, (R i).length ≤ 1000 := fun i => by
      rw [hR]
      by_cases e : i < rows.length
      · simp only [e, if_true]; exact hl i e
      · simp [e]
    have hone : OneCell enc := fun i => by
      rw [henc]
      by_cases e : i < rows.length
      · simp only [e, if_true]
        obtain ⟨p1, k1, e1, _⟩ := (g2 i e).shape
        rw [e1]; rfl
      · simp only [e, if_false]; rfl
    have hnb : ∀ i, i < rows.length → ∀ k, (F i).ownBlock = some k → k ≠ g ∧ k < w.heap.size := fun i hi k hk => ⟨fun e => by
      subst e
      exact own_types g1 (g2 i hi) (by decide) rfl hk, (Own.block (g2 i hi) hk).2.2⟩
    have hcmp : CmpLays1 Try.prog 94 #[] enc (fun i j => pivL (R i) - pivL (R j)) g 0 (Array.range rows.length).size w := by
      refine CmpReads.lays fun m os dk _ x y => ?_
      have hI : ∀ i, Ints (sortWorld enc w g 0 m dk os) (enc i) (R i) := fun i => by
        rw [henc, hR]
        by_cases e : i < rows.length
        · simp only [e, if_true]
          exact ((g2 i e).at_block fun k hk => sortWorld_other _ (hnb i e k hk).2 (hnb i e k hk).1 m dk os).ints
        · simp only [e, if_false]
          exact ⟨none, 0, rfl, ⟨Nat.le_refl _, Nat.zero_le _⟩, fun h => absurd h (by simp)⟩
      exact cmpPiv_any (enc x) (enc y) (R x) (R y) _ (hI x) (hI y) (hRl x) (hRl y)
    have hH : Holds enc w g 0 (Array.range rows.length) := fun j hj => by
      rw [Array.size_range] at hj
      have e : (Array.range rows.length)[j]! = j := by rw [getElem!_pos _ j (by simpa using hj)]; simp
      rw [e, Nat.zero_add]
      refine ⟨?_, g1.frozen j⟩
      rw [g1.cell hj, henc]
      simp [hj]
    have hcon := Any.slices_SortFunc Try.sortF enc hone (fun i j => pivL (R i) - pivL (R j)) (swo_piv fun i => pivL (R i)) 94 #[] g 0 cap (Array.range rows.length) w enter hcmp hH hg3 (by rw [Array.size_range]; omega)
    change Calls Try.prog 93 _ _ _ at hcon
    rw [Array.size_range] at hcon
    refine hcon.mono ?_
    rintro e w' ⟨rfl, d', n, os, hp1, hs1, rfl⟩
    have hsz : d'.size = rows.length := by simpa using hp1.1
    have hperm : d'.toList.Perm (List.range rows.length) := by
      have h1 := hp1.2.2
      have e1 : d'.extract 0 rows.length = d' := by rw [← hsz]; simp
      have e2 : (Array.range rows.length).extract 0 rows.length = Array.range rows.length := by
        have := Array.extract_size (xs := Array.range rows.length)
        rwa [Array.size_range] at this
      rw [e1, e2] at h1
      simpa using h1
    have hat : ∀ i (hi : i < rows.length), d'[i]! = d'.toList[i]'(by simpa [hsz] using hi) := fun i hi => by
      rw [getElem!_pos d' i (by omega)]; simp
    have hlt : ∀ i, i < rows.length → d'[i]! < rows.length := fun i hi => by
      have : d'[i]! ∈ d'.toList := by rw [hat i hi]; exact List.getElem_mem _
      simpa using hperm.mem_iff.1 this
    have hRe : ∀ i, i < rows.length → R d'[i]! = rows.getD d'[i]! [] := fun i hi => by rw [hR]; simp only [hlt i hi, if_true]
    have hnd : d'.toList.Nodup := hperm.nodup_iff.2 List.nodup_range
    have hneq : ∀ i j, i < j → j < rows.length → d'[i]! ≠ d'[j]! := fun i j hij hj => by
      rw [hat i (by omega), hat j hj]
      exact (List.pairwise_iff_getElem.1 hnd) i j _ _ hij
    refine ⟨rfl, fun i => d'[i]!, ⟨hlt, fun i j hi hj e => ?_, fun j hj => ?_, fun i j hij hj => ?_⟩, ?_, sortWorld_frm enc w hg1 hg2 n d' os⟩
    · rcases Nat.lt_trichotomy i j with h | h | h
      · exact absurd e (hneq i j h hj)
      · exact h
      · exact absurd e.symm (hneq j i h hi)
    · have : j ∈ d'.toList := hperm.mem_iff.2 (by simpa using hj)
      obtain ⟨i, hi, e⟩ := List.mem_iff_getElem.1 this
      have hi' : i < rows.length := by simpa [hsz] using hi
      exact ⟨i, hi', by rw [← e]; exact hat i hi'⟩
    · have h1 := hs1 i j (Nat.zero_le _) hij hj
      simp only [ltOf, decide_eq_false_iff_not] at h1
      rw [hRe i (by omega), hRe j hj] at h1
      dsimp only
      omega
    · obtain ⟨c, hc1, hc2, hc3⟩ := hrow
      have hrow' : (sortWorld enc w g 0 n d' os).rowIs g 22 cap (fun k => if k < rows.length then F d'[k]! else G k) := by
        refine ⟨_, sortWorld_at enc hc1 n d' os, by simp [putCells, hc2], fun i hi => ?_⟩
        simp only [putCells, Array.getElem?_mapIdx, hc3 i hi, Option.map_some, Nat.zero_le, true_and, Nat.zero_add, Nat.sub_zero, hsz]
        by_cases e : i < rows.length
        · simp only [e, if_true]
          rw [henc]
          simp only [hlt i e, if_true]
        · simp only [e, if_false]
      refine ⟨fun k => F d'[k]!, ?_, fun i hi => ?_, fun i j hij hj k hk => ?_⟩
      · rw [reL_length]
        exact OwnF.mk' hrow' hg1 hg2 hnc hcm fun j hj => by simp only [hj, if_true]
      · rw [reL_length] at hi
        rw [reL_getD hi]
        exact (g2 _ (hlt i hi)).at_block fun k hk => sortWorld_other enc (hnb _ (hlt i hi) k hk).2 (hnb _ (hlt i hi) k hk).1 n d' os
      · rw [reL_length] at hj
        have h1 := hneq i j hij hj
        intro hk2
        rcases Nat.lt_or_gt_of_ne h1 with h2 | h2
        · exact g3 _ _ h2 (hlt j hj) k hk hk2
        · exact g3 _ _ h2 (hlt i (by omega)) k hk2 hk

end Go.Proofs.Ytejoapielndnnaa
