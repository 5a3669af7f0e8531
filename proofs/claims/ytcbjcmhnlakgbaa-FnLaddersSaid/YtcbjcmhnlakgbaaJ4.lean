/-
  Reduced pipe dreams and ladder moves, reckoned for permutations of at most four. Plain.
  The order of cells and of dreams: what is sorted is one. Plain.
  Lists of dreams (lists of cells) in the program.
  What the reference asks of numbers and values; its exchange of two places, codes and places.
  The reference's code of a list, and its place among the permutations.
  The inverse permutation, on both sides.
  The identity, as the reference makes it.
  Lengths and words of permutations. Plain.
  Go's stable sort as it runs, over arrays: the model. Plain.
  Worlds of a sort whose closure may make memory, whatever was drawn: what the walks want of them.
  What the blocks hold behind a sort.
  Worlds that drew and grew, and nothing else.
  byCells, and the program's sorting of cells.
-/
import Derived.Test.YtcbjcmhnlakgbaaJ3
import Derived.Test.YtcbjcmhnlakgbaaJ2
import Derived.Lib.OwnKind
import Derived.Shelf.SlSortCmp.Insertion1
import Derived.Test.YtcbjcmhnlakgbaaShelf
namespace Go.Proofs.Ytcbjcmhnlakgbaa
set_option linter.all false
set_option maxRecDepth 100000
open Go.RowKit

abbrev Cel := Int × Int
abbrev Drm := List Cel
def ceD : Cel := (0, 0)
/-- the order of cells -/
def cmpC (a b : Cel) : Int := if a.1 = b.1 then a.2 - b.2 else a.1 - b.1
def insC (c : Cel) : Drm → Drm
  | [] => [c]
  | d :: ds => if cmpC c d ≤ 0 then c :: d :: ds else d :: insC c ds
def srtC (l : Drm) : Drm := l.foldr insC []
/-- the order of dreams -/
def cmpD : Drm → Drm → Int
  | [], [] => 0
  | [], _ :: _ => -1
  | _ :: _, [] => 1
  | a :: x, b :: y => if cmpC a b = 0 then cmpD x y else cmpC a b
def insD (c : Drm) : List Drm → List Drm
  | [] => [c]
  | d :: ds => if cmpD c d ≤ 0 then c :: d :: ds else d :: insD c ds
def srtD (l : List Drm) : List Drm := l.foldr insD []
/-- neighbours that are the same are dropped -/
def cmG {α : Type} [DecidableEq α] (p : α) : List α → List α
  | [] => []
  | y :: l => if y = p then cmG y l else y :: cmG y l
def cmpct {α : Type} [DecidableEq α] : List α → List α
  | [] => []
  | x :: l => x :: cmG x l
def ordD (l : List Drm) : List Drm := cmpct (srtD l)
/-- what makes cells a dream of n -/
def celOk (n : Int) (cs : Drm) (k : Nat) : Bool :=
  decide (0 ≤ (cs.getD k ceD).1 ∧ (cs.getD k ceD).1 ≤ n - 2 ∧ 0 ≤ (cs.getD k ceD).2 ∧ (cs.getD k ceD).2 ≤ n - 2 - (cs.getD k ceD).1) && (decide (k = 0) || decide (cmpC (cs.getD (k - 1) ceD) (cs.getD k ceD) < 0))
def isDrB (n : Int) (cs : Drm) : Bool := decide (1 ≤ n ∧ n ≤ 6) && (List.range cs.length).all (celOk n cs)
/-- up the ladder from below row r -/
def down (cs : Drm) (c : Int) : Nat → Int
  | 0 => -1
  | r + 1 => if ((r : Int), c) ∈ cs ∧ ((r : Int), c + 1) ∈ cs then down cs c r else r
def moveB (cs : Drm) (k : Nat) : List Drm :=
  let c := cs.getD k ceD
  if (c.1, c.2 + 1) ∈ cs then []
  else
    let t := down cs c.2 c.1.toNat
    if t < 0 ∨ (t, c.2) ∈ cs ∨ (t, c.2 + 1) ∈ cs then [] else [srtC (cs.set k (t, c.2 + 1))]
def movesTo (cs : Drm) (k : Nat) : List Drm := (List.range k).flatMap (moveB cs)
def movesB (n : Int) (cs : Drm) : List Drm := if isDrB n cs = true then ordD (movesTo cs cs.length) else []
/-- the bottom dream -/
def botRow (w : List Int) (i : Nat) : Drm := (List.range (codeN w i)).map fun (j : Nat) => ((i : Int), (j : Int))
def botL (w : List Int) : Drm := (List.range w.length).flatMap (botRow w)
/-- bounds, checked on the way -/
def okD (d : Drm) : Bool := decide (d.length ≤ 20) && d.all fun c => decide (0 ≤ c.1 ∧ c.1 ≤ 10 ∧ 0 ≤ c.2 ∧ c.2 ≤ 10)
def okL (L : List Drm) : Bool := decide (L.length ≤ 400) && L.all okD
/-- all dreams, as the program finds them -/
def pipeF : Nat → Int → List Drm → List Drm → Option (List Drm)
  | 0, _, _, _ => none
  | f + 1, n, all, last =>
    if last = [] then some all
    else if okL all && okL last && okL (last.flatMap (movesB n)) && okL (all ++ (ordD (last.flatMap (movesB n))).filter fun d => decide (d ∉ all)) then
      pipeF f n (all ++ (ordD (last.flatMap (movesB n))).filter fun d => decide (d ∉ all)) ((ordD (last.flatMap (movesB n))).filter fun d => decide (d ∉ all))
    else none
def pipesB (w : List Int) : Option (List Drm) := pipeF 20 w.length [botL w] [botL w]
/-- .. and as the law does -/
def putD (l : List Drm) (x : Drm) : List Drm := if x ∈ l then l else l ++ [x]
def putDs (l : List Drm) (more : List Drm) : List Drm := more.foldl putD l
def growF : Nat → Int → List Drm → Nat → Option (List Drm)
  | 0, _, _, _ => none
  | f + 1, n, l, i =>
    if okL l && okL (movesB n (l.getD i [])) then
      if i < l.length ∧ l.length ≤ 400 then growF f n (putDs l (movesB n (l.getD i []))) (i + 1) else some l
    else none
def growB (w : List Int) : Option (List Drm) := growF 40 w.length [botL w] 0
def ladB (w : List Int) : Bool := decide (4 < w.length) ||
  match growB w, pipesB w with
  | some l, some a => okL l && okL a && okD (botL w) && decide ((ordD a).length = l.length) && (ordD a).all fun d => decide (d ∈ l)
  | _, _ => false
theorem lad_all : all5 ladB = true := by decide +kernel
theorem lad_law {w : List Int} (hp : permOk w = true) (h4 : w.length ≤ 4) : ∃ l a, growB w = some l ∧ pipesB w = some a ∧ okL l = true ∧ okL a = true ∧ okD (botL w) = true ∧ (ordD a).length = l.length ∧ ∀ d ∈ ordD a, d ∈ l := by
  have := all5_at lad_all hp (by omega)
  unfold ladB at this
  rw [decide_eq_false (by omega), Bool.false_or] at this
  cases hg : growB w with
  | none => rw [hg] at this; cases this
  | some l =>
    cases hb : pipesB w with
    | none => rw [hg, hb] at this; cases this
    | some a =>
      rw [hg, hb] at this
      simp only [Bool.and_eq_true, decide_eq_true_eq, List.all_eq_true] at this
      obtain ⟨⟨⟨⟨h1, h2⟩, h3⟩, h4⟩, h5⟩ := this
      exact ⟨l, a, rfl, rfl, h1, h2, h3, h4, h5⟩

end Go.Proofs.Ytcbjcmhnlakgbaa

namespace Go.Proofs.Ytcbjcmhnlakgbaa
set_option linter.all false
set_option maxRecDepth 100000
open Go.RowKit

theorem cmpC_neg (a b : Cel) : decide (cmpC a b < 0) = decide (a.1 < b.1 ∨ (a.1 = b.1 ∧ a.2 < b.2)) := by
  unfold cmpC
  rw [decide_eq_decide]
  split <;> omega
theorem cmpC_zero {a b : Cel} (h : cmpC a b = 0) : a = b := by
  unfold cmpC at h
  obtain ⟨a1, a2⟩ := a
  obtain ⟨b1, b2⟩ := b
  dsimp only at h
  rw [Prod.mk.injEq]
  split at h <;> omega
theorem cmpC_self (a : Cel) : cmpC a a = 0 := by unfold cmpC; simp
theorem cmpC_swap (a b : Cel) : cmpC b a = - cmpC a b := by unfold cmpC; split <;> split <;> omega
theorem cmpC_trans {a b c : Cel} (h : cmpC a b ≤ 0) (h2 : cmpC b c ≤ 0) : cmpC a c ≤ 0 := by
  unfold cmpC at *
  split at h <;> split at h2 <;> split <;> omega

/-- an order by a number, of which 0 means the same -/
structure Cmp {α : Type} (cmp : α → α → Int) : Prop where
  zero : ∀ a b, cmp a b = 0 → a = b
  self : ∀ a, cmp a a = 0
  swap : ∀ a b, cmp a b ≤ 0 ∨ cmp b a ≤ 0
  anti : ∀ a b, cmp a b ≤ 0 → cmp b a ≤ 0 → cmp a b = 0
  lt : ∀ a b, cmp a b < 0 ↔ ¬ cmp b a ≤ 0
  trans : ∀ a b c, cmp a b ≤ 0 → cmp b c ≤ 0 → cmp a c ≤ 0
namespace Cmp
variable {α : Type} {cmp : α → α → Int}
/-- what insertion makes -/
def ins (cmp : α → α → Int) (c : α) : List α → List α
  | [] => [c]
  | d :: ds => if cmp c d ≤ 0 then c :: d :: ds else d :: ins cmp c ds
def srt (cmp : α → α → Int) (l : List α) : List α := l.foldr (ins cmp) []
theorem ins_perm (c : α) : ∀ l, (ins cmp c l).Perm (c :: l)
  | [] => List.Perm.refl _
  | d :: ds => by
    unfold ins
    split
    · exact List.Perm.refl _
    · exact ((ins_perm c ds).cons d).trans (List.Perm.swap c d ds)
theorem srt_perm : ∀ l : List α, (srt cmp l).Perm l
  | [] => List.Perm.refl _
  | c :: l => (ins_perm c _).trans ((srt_perm l).cons c)
theorem ins_asc (H : Cmp cmp) (c : α) : ∀ {l : List α}, l.Pairwise (fun a b => cmp a b ≤ 0) → (ins cmp c l).Pairwise (fun a b => cmp a b ≤ 0)
  | [], _ => List.pairwise_singleton _ _
  | d :: ds, h => by
    obtain ⟨h1, h2⟩ := List.pairwise_cons.1 h
    unfold ins
    split
    · rename_i e
      refine List.pairwise_cons.2 ⟨fun y hy => ?_, h⟩
      rcases List.mem_cons.1 hy with rfl | hy
      · exact e
      · exact H.trans _ _ _ e (h1 y hy)
    · rename_i e
      refine List.pairwise_cons.2 ⟨fun y hy => ?_, ins_asc H c h2⟩
      rcases List.mem_cons.1 ((ins_perm c ds).mem_iff.1 hy) with rfl | hy
      · exact (H.swap d y).resolve_right e
      · exact h1 y hy
theorem srt_asc (H : Cmp cmp) : ∀ l : List α, (srt cmp l).Pairwise (fun a b => cmp a b ≤ 0)
  | [] => List.Pairwise.nil
  | c :: l => ins_asc H c (srt_asc H l)
theorem one (H : Cmp cmp) : ∀ {a b : List α}, a.Pairwise (fun a b => cmp a b ≤ 0) → b.Pairwise (fun a b => cmp a b ≤ 0) → a.Perm b → a = b
  | [], b, _, _, h => (List.nil_perm.1 h).symm
  | x :: a, [], _, _, h => absurd h.length_eq (by simp)
  | x :: a, y :: b, ha, hb, h => by
    obtain ⟨a1, a2⟩ := List.pairwise_cons.1 ha
    obtain ⟨b1, b2⟩ := List.pairwise_cons.1 hb
    have hx : x ∈ y :: b := h.mem_iff.1 List.mem_cons_self
    have hy : y ∈ x :: a := h.mem_iff.2 List.mem_cons_self
    have e : x = y := by
      rcases List.mem_cons.1 hx with e | hx
      · exact e
      · rcases List.mem_cons.1 hy with e | hy
        · exact e.symm
        · exact H.zero _ _ (H.anti _ _ (a1 y hy) (b1 x hx))
    subst e
    rw [one H a2 b2 (List.Perm.cons_inv h)]
theorem srt_eq (H : Cmp cmp) {a b : List α} (hp : b.Perm a) (hs : b.Pairwise fun x y => decide (cmp y x < 0) = false) : b = srt cmp a := by
  refine one H (hs.imp fun {x y} h => ?_) (srt_asc H a) (hp.trans (srt_perm a).symm)
  rw [decide_eq_false_iff_not, H.lt] at h
  omega
end Cmp

theorem cmpC_ok : Cmp cmpC where
  zero _ _ h := cmpC_zero h
  self := cmpC_self
  swap a b := by rw [cmpC_swap a b]; omega
  anti a b h h2 := by rw [cmpC_swap a b] at h2; omega
  lt a b := by rw [cmpC_swap a b]; omega
  trans _ _ _ h h2 := cmpC_trans h h2
theorem insC_eq (c : Cel) : ∀ l, insC c l = Cmp.ins cmpC c l
  | [] => rfl
  | d :: ds => by unfold insC Cmp.ins; rw [insC_eq c ds]
theorem srtC_eq (l : Drm) : srtC l = Cmp.srt cmpC l := by
  unfold srtC Cmp.srt
  rw [show insC = Cmp.ins cmpC from funext fun c => funext fun l => insC_eq c l]

theorem cmpD_self : ∀ a : Drm, cmpD a a = 0
  | [] => rfl
  | a :: x => by unfold cmpD; rw [if_pos (cmpC_self a), cmpD_self x]
theorem cmpD_zero : ∀ a b : Drm, cmpD a b = 0 → a = b
  | [], [], _ => rfl
  | [], _ :: _, h => by unfold cmpD at h; omega
  | _ :: _, [], h => by unfold cmpD at h; omega
  | a :: x, b :: y, h => by
    unfold cmpD at h
    by_cases e : cmpC a b = 0
    · rw [if_pos e] at h
      rw [cmpC_zero e, cmpD_zero x y h]
    · rw [if_neg e] at h
      exact absurd h e
theorem cmpD_swap : ∀ a b : Drm, cmpD b a = - cmpD a b
  | [], [] => rfl
  | [], _ :: _ => rfl
  | _ :: _, [] => rfl
  | a :: x, b :: y => by
    unfold cmpD
    rw [cmpC_swap a b]
    by_cases e : cmpC a b = 0
    · rw [if_pos e, if_pos (by omega), cmpD_swap x y]
    · rw [if_neg e, if_neg (by omega)]
theorem cmpD_trans : ∀ a b c : Drm, cmpD a b ≤ 0 → cmpD b c ≤ 0 → cmpD a c ≤ 0
  | [], [], _, _, h => h
  | [], _ :: _, [], _, _ => by decide
  | [], _ :: _, _ :: _, _, _ => by unfold cmpD; decide
  | _ :: _, [], _, h, _ => by unfold cmpD at h; omega
  | _ :: _, _ :: _, [], _, h => by unfold cmpD at h; omega
  | a :: x, b :: y, c :: z, h, h2 => by
    unfold cmpD at h h2 ⊢
    by_cases e : cmpC a b = 0
    · obtain rfl := cmpC_zero e
      rw [if_pos e] at h
      by_cases e2 : cmpC a c = 0
      · rw [if_pos e2] at h2 ⊢
        exact cmpD_trans x y z h h2
      · rw [if_neg e2] at h2 ⊢
        exact h2
    · rw [if_neg e] at h
      by_cases e2 : cmpC b c = 0
      · obtain rfl := cmpC_zero e2
        rw [if_neg e]
        exact h
      · rw [if_neg e2] at h2
        have h3 := cmpC_trans h h2
        by_cases e3 : cmpC a c = 0
        · obtain rfl := cmpC_zero e3
          have := cmpC_swap a b
          omega
        · rw [if_neg e3]
          exact h3
theorem cmpD_ok : Cmp cmpD where
  zero := cmpD_zero
  self := cmpD_self
  swap a b := by rw [cmpD_swap a b]; omega
  anti a b h h2 := by rw [cmpD_swap a b] at h2; omega
  lt a b := by rw [cmpD_swap a b]; omega
  trans := cmpD_trans
theorem insD_eq (c : Drm) : ∀ l, insD c l = Cmp.ins cmpD c l
  | [] => rfl
  | d :: ds => by unfold insD Cmp.ins; rw [insD_eq c ds]
theorem srtD_eq (l : List Drm) : srtD l = Cmp.srt cmpD l := by
  unfold srtD Cmp.srt
  rw [show insD = Cmp.ins cmpD from funext fun c => funext fun l => insD_eq c l]

theorem okD_at {d : Drm} (h : okD d = true) : d.length ≤ 20 ∧ ∀ c ∈ d, 0 ≤ c.1 ∧ c.1 ≤ 10 ∧ 0 ≤ c.2 ∧ c.2 ≤ 10 := by
  unfold okD at h
  simp only [Bool.and_eq_true, decide_eq_true_eq, List.all_eq_true] at h
  exact h
theorem okD_getD {d : Drm} (h : okD d = true) (i : Nat) : 0 ≤ (d.getD i ceD).1 ∧ (d.getD i ceD).1 ≤ 10 ∧ 0 ≤ (d.getD i ceD).2 ∧ (d.getD i ceD).2 ≤ 10 := by
  by_cases hi : i < d.length
  · have e : d.getD i ceD = d[i] := by simp [List.getD_eq_getElem?_getD, hi]
    rw [e]
    exact (okD_at h).2 _ (List.getElem_mem hi)
  · have e : d.getD i ceD = ceD := by simp [List.getD_eq_getElem?_getD, hi]
    rw [e]
    decide
theorem okL_at {L : List Drm} (h : okL L = true) : L.length ≤ 400 ∧ ∀ d ∈ L, okD d = true := by
  unfold okL at h
  simp only [Bool.and_eq_true, decide_eq_true_eq, List.all_eq_true] at h
  exact h
theorem okL_getD {L : List Drm} (h : okL L = true) (i : Nat) : okD (L.getD i []) = true := by
  by_cases hi : i < L.length
  · have e : L.getD i [] = L[i] := by simp [List.getD_eq_getElem?_getD, hi]
    rw [e]
    exact (okL_at h).2 _ (List.getElem_mem hi)
  · have e : L.getD i [] = [] := by simp [List.getD_eq_getElem?_getD, hi]
    rw [e]
    decide
theorem getD_list_ext {α : Type} {d : α} {a b : List α} (h : a.length = b.length) (h2 : ∀ i, i < a.length → a.getD i d = b.getD i d) : a = b := by
  apply List.ext_getElem h
  intro i h1 h3
  have := h2 i h1
  simpa [List.getD_eq_getElem?_getD, h1, h3] using this

end Go.Proofs.Ytcbjcmhnlakgbaa

namespace Go.Proofs.Ytcbjcmhnlakgbaa
set_option linter.all false
set_option maxRecDepth 100000
open Go.RowKit

theorem info_slC : (Try.prog.info? 27).map (fun i => (i.zero, i.size, i.bytes)) = some (some (.slice none 0 0), 1, 24) := by kernel_rfl

/-- dreams that can be read -/
def RdD (w : World) (v : Value) (L : List Drm) : Prop := ∃ f, Rd w v L.length f ∧ ∀ i, i < L.length → RdC w (f i) (L.getD i [])
theorem RdD.below {w w' : World} {v : Value} {L : List Drm} (h : RdD w v L) (hb : Below w.heap.size w w') : RdD w' v L := by
  obtain ⟨f, h1, h2⟩ := h
  exact ⟨f, h1.below hb, fun i hi => (h2 i hi).below hb⟩
theorem RdD.qt {w w' : World} {v : Value} {L : List Drm} (h : RdD w v L) (q : Qt w w') : RdD w' v L := h.below (q.below _)
theorem RdC.one {w : World} {v : Value} {cs : Drm} (h : RdC w v cs) : v.oneCell' = true := by
  obtain ⟨p, cap, rfl, _⟩ := h
  rfl
theorem OwnC.keep {w w' : World} {lo hi : Nat} {v : Value} {cs : Drm} (h : OwnC w lo hi v cs) (hb : ∀ k, v.ownBlock = some k → w'.heap[k]? = w.heap[k]?) : OwnC w' lo hi v cs :=
  ⟨ownsRow_of_block h.1 hb, h.2⟩
theorem OwnC.kind {w : World} {lo hi : Nat} {v : Value} {cs : Drm} (h : OwnC w lo hi v cs) : ∀ g, v.ownBlock = some g → ∃ c fz, w.heap[g]? = some (.cells c 41 fz) := Lib.ownsRow_kind h.1
theorem OwnF.kind {T : TypeId} {w : World} {lo hi n : Nat} {v : Value} {f : Nat → Value} (h : OwnF w lo hi T v n f) : ∀ g, v.ownBlock = some g → ∃ c fz, w.heap[g]? = some (.cells c T fz) := by
  obtain ⟨xs, h, _⟩ := h
  exact Lib.ownsRow_kind h.1
theorem kinds_ne {w : World} {T U : TypeId} {g : Nat} (h1 : ∃ c fz, w.heap[g]? = some (.cells c T fz)) (h2 : ∃ c fz, w.heap[g]? = some (.cells c U fz)) (hT : T ≠ U) : False := by
  obtain ⟨c, z, h1⟩ := h1
  obtain ⟨c', z', h2⟩ := h2
  rw [h1] at h2
  injection h2 with h2
  injection h2 with _ h2
  exact hT h2

/-- dreams that a call made -/
def OwnD (w : World) (lo hi : Nat) (v : Value) (L : List Drm) : Prop :=
  ∃ f, OwnF w lo hi 27 v L.length f ∧ ∀ i, i < L.length → OwnC w lo hi (f i) (L.getD i [])
namespace OwnD
variable {w w' : World} {lo hi : Nat} {v : Value} {L : List Drm}
theorem rd (h : OwnD w lo hi v L) : RdD w v L := by
  obtain ⟨f, h1, h2⟩ := h
  exact ⟨f, h1.rd, fun i hi => (h2 i hi).rd⟩
theorem keep (h : OwnD w lo hi v L) (hb : ∀ k, lo ≤ k → k < hi → k < w.heap.size → w'.heap[k]? = w.heap[k]?) : OwnD w' lo hi v L := by
  obtain ⟨f, h1, h2⟩ := h
  exact ⟨f, h1.keep hb, fun i hi => Own.keep (h2 i hi) hb⟩
theorem below (h : OwnD w lo hi v L) (hb : Below w.heap.size w w') : OwnD w' lo hi v L := h.keep fun k _ _ h3 => hb.block k h3
theorem frm {lo' hi' : Nat} (h : OwnD w lo hi v L) (hb : Frm lo' hi' w w') (ho : hi ≤ lo' ∨ hi' ≤ lo) : OwnD w' lo hi v L := h.keep fun k h1 h2 h3 => hb.block k h3 (by omega)
theorem mono {lo' hi' : Nat} (h : OwnD w lo hi v L) (h1 : lo' ≤ lo) (h2 : hi ≤ hi') : OwnD w lo' hi' v L := by
  obtain ⟨f, g1, g2⟩ := h
  exact ⟨f, g1.mono h1 h2, fun i hi => (g2 i hi).mono h1 h2⟩
theorem shape (h : OwnD w lo hi v L) : ∃ p cap, v = .slice p L.length cap ∧ L.length ≤ cap ∧ cap ≤ maxLen := by
  obtain ⟨f, h1, _⟩ := h
  obtain ⟨p, cap, e, h2, h3, _⟩ := h1.shape
  exact ⟨p, cap, e, h2, h3⟩
theorem blocks (h : OwnD w lo hi v L) : ∀ k, v.ownBlock = some k → lo ≤ k ∧ k < hi := by
  obtain ⟨f, h1, _⟩ := h
  exact h1.blocks
theorem nil (w : World) (lo hi : Nat) : OwnD w lo hi (.slice none 0 0) [] := ⟨fun _ => undef, OwnF.nil _ _ _ _ _, fun i hi => absurd hi (Nat.not_lt_zero _)⟩
theorem made0 (w : World) : OwnD (w.alloc (.cells #[] 27)) w.heap.size (w.heap.size + 1) (.slice (some ⟨w.heap.size, 0, none⟩) 0 0) [] :=
  ⟨fun _ => undef, OwnF.made0 _ _ _, fun i hi => absurd hi (Nat.not_lt_zero _)⟩
/-- a store in a block of another kind -/
theorem setOther (h : OwnD w lo hi v L) {a : Addr} {T : TypeId} (ha : ∃ c fz, w.heap[a.block]? = some (.cells c T fz)) (h1 : T ≠ 27) (h2 : T ≠ 41) (u : Value) : OwnD (w.setCell a u) lo hi v L := by
  obtain ⟨f, g1, g2⟩ := h
  refine ⟨f, ?_, fun i hi => (g2 i hi).keep fun k hk => Below.heap_setCell _ _ _ _ fun e => ?_⟩
  · obtain ⟨xs, k1, k2⟩ := g1
    refine ⟨xs, ⟨ownsRow_of_block k1.1 fun k hk => Below.heap_setCell _ _ _ _ fun e => ?_, k1.2⟩, k2⟩
    subst e
    exact kinds_ne ha (Lib.ownsRow_kind k1.1 _ hk) h1
  · subst e
    exact kinds_ne ha ((g2 i hi).kind _ hk) h2
/-- dreams put behind the others -/
theorem join {v' : Value} {mid lo2 hi2 : Nat} {L2 : List Drm} {f g : Nat → Value} (g1 : OwnF w lo mid 27 v L.length f) (g2 : ∀ i, i < L.length → OwnC w lo mid (f i) (L.getD i []))
    (h2 : ∀ i, i < L2.length → OwnC w lo2 hi2 (g i) (L2.getD i [])) (hm : lo ≤ lo2) (hmid : mid ≤ w'.heap.size) (hsz : hi2 ≤ w'.heap.size) (hg : w.grownBy w' v.ownBlock)
    (hv : OwnF w' lo w'.heap.size 27 v' (L.length + L2.length) (fun j => if j < L.length then f j else g (j - L.length))) : OwnD w' lo w'.heap.size v' (L ++ L2) := by
  have hrow : ∀ (y : Value) (ys : Drm) (lo1 hi1 : Nat), OwnC w lo1 hi1 y ys → OwnC w' lo1 hi1 y ys := fun y ys lo1 hi1 hy =>
    hy.keep fun k hk => hg.block k (Own.block hy hk).2.2 fun e => kinds_ne (g1.kind k e.symm) (hy.kind k hk) (by decide)
  refine ⟨_, by rw [List.length_append]; exact hv, fun i hi => ?_⟩
  rw [List.length_append] at hi
  by_cases hlt : i < L.length
  · have e : (L ++ L2).getD i [] = L.getD i [] := by simp [List.getD_eq_getElem?_getD, List.getElem?_append_left hlt]
    simp only [hlt, if_true]
    rw [e]
    exact (hrow _ _ _ _ (g2 i hlt)).mono (Nat.le_refl _) hmid
  · have e : (L ++ L2).getD i [] = L2.getD (i - L.length) [] := by
      simp [List.getD_eq_getElem?_getD, List.getElem?_append_right (Nat.le_of_not_lt hlt)]
    simp only [hlt, if_false]
    rw [e]
    exact (hrow _ _ _ _ (h2 _ (by omega))).mono hm hsz
/-- the first of them -/
theorem part {p : Option Addr} {n cap m : Nat} (h : OwnD w lo hi (.slice p n cap) L) (hm : m ≤ L.length) (hp : p ≠ none) : OwnD w lo hi (.slice p m cap) (L.take m) := by
  obtain ⟨f, g1, g2⟩ := h
  obtain ⟨p', cap', e, h1, h2, _⟩ := g1.shape
  injection e with e1 e2 e3
  subst e2 e3
  obtain ⟨xs, k1, k2⟩ := g1
  refine ⟨f, ?_, fun i hi => ?_⟩
  · rw [List.length_take, Nat.min_eq_left hm]
    rcases Own.row k1 with ⟨e, _, _⟩ | ⟨g, c2, F, e, b1, b2, b3, b4, hr, hF⟩
    · injection e with e _ _
      exact absurd e hp
    · injection e with e1 e2 e3
      subst e1 e3
      exact OwnF.mk' hr b1 b2 (Nat.le_trans hm h1) b4 fun j hj => Option.some.inj ((hF j (by omega)).symm.trans (k2 j (by omega)))
  · rw [List.length_take, Nat.min_eq_left hm] at hi
    have e : (L.take m).getD i [] = L.getD i [] := by simp [List.getD_eq_getElem?_getD, List.getElem?_take, hi]
    rw [e]
    exact g2 i (by omega)
end OwnD

end Go.Proofs.Ytcbjcmhnlakgbaa

namespace Go.Proofs.Ytcbjcmhnlakgbaa
set_option linter.all false
open Go.RowKit

theorem nm_no1 {N : Int} {y : List Int} (h : ¬ (1 ≤ N ∧ N ≤ 5)) : nmOk N y = false := by
  unfold nmOk
  by_cases h1 : 1 ≤ N
  · rw [decide_eq_false (show ¬ N ≤ 5 by omega)]; simp
  · rw [decide_eq_false h1]; simp
theorem nm_no2 {N : Int} {y : List Int} (h : ¬ (y.length : Int) = N) : nmOk N y = false := by
  unfold nmOk
  rw [decide_eq_false h]; simp
theorem nm_no3 {N : Int} {y : List Int} {k : Nat} (hk : k < y.length) (h : ¬ (-9 ≤ y.getD k 0 ∧ y.getD k 0 ≤ 9)) : nmOk N y = false := by
  unfold nmOk
  rw [decide_eq_false (show ¬ ∀ x ∈ y, -9 ≤ x ∧ x ≤ 9 from fun e => h (e _ (getD_mem hk)))]; simp
theorem all_of_getD {y : List Int} {Q : Int → Prop} (h : ∀ k, k < y.length → Q (y.getD k 0)) : ∀ x ∈ y, Q x := fun x hx => by
  obtain ⟨k, hk, rfl⟩ := List.mem_iff_getElem.1 hx
  have := h k hk
  rwa [getD_lt hk] at this
theorem nm_yes {N : Int} {y : List Int} (h : 1 ≤ N ∧ N ≤ 5) (hl : (y.length : Int) = N) (hk : ∀ k, k < y.length → -9 ≤ y.getD k 0 ∧ y.getD k 0 ≤ 9) : nmOk N y = true := by
  unfold nmOk
  rw [decide_eq_true h.1, decide_eq_true h.2, decide_eq_true hl, decide_eq_true (all_of_getD hk)]; rfl
theorem nm_facts {N : Int} {y : List Int} (h : nmOk N y = true) : ∃ n : Nat, N = n ∧ 1 ≤ n ∧ n ≤ 5 ∧ y.length = n ∧ ∀ k, k < n → -9 ≤ y.getD k 0 ∧ y.getD k 0 ≤ 9 := by
  unfold nmOk at h
  simp only [Bool.and_eq_true, decide_eq_true_eq] at h
  obtain ⟨⟨⟨h1, h2⟩, h3⟩, h4⟩ := h
  exact ⟨y.length, h3.symm, by omega, by omega, rfl, fun k hk => h4 _ (getD_mem hk)⟩

theorem ints_takeP2 {w : World} {p : Option Addr} {cap : Nat} {xs : List Int} (h : Ints w (.slice p xs.length cap) xs) {i : Nat} (hi : i ≤ xs.length) : Ints w (.slice p i cap) (xs.take i) := h.take i hi
/-! ### different numbers -/
theorem ap_no1 {N : Int} {y : List Int} (h : nmOk N y = false) : apOk N y = false := by simp [apOk, h]
theorem ap_no2 {N : Int} {y : List Int} (h : ¬ N ≤ 4) : apOk N y = false := by simp [apOk, h]
theorem nodup_no {y : List Int} {k : Nat} (hk : k < y.length) (h : y.getD k 0 ∈ y.take k) : ¬ y.Nodup := fun hn => by
  obtain ⟨j, hj, e⟩ := List.mem_iff_getElem.1 h
  have hj' : j < k := by rw [List.length_take] at hj; omega
  rw [List.getElem_take, getD_lt hk] at e
  exact List.pairwise_iff_getElem.1 hn j k (by omega) hk hj' e
theorem nodup_yes {y : List Int} (h : ∀ k, k < y.length → ¬ y.getD k 0 ∈ y.take k) : y.Nodup := by
  refine List.pairwise_iff_getElem.2 fun i j hi hj hij e => h j hj ?_
  rw [getD_lt hj, ← e]
  exact List.mem_iff_getElem.2 ⟨i, by rw [List.length_take]; omega, by rw [List.getElem_take]⟩
theorem ap_no3 {N : Int} {y : List Int} {k : Nat} (hk : k < y.length) (h : y.getD k 0 ∈ y.take k) : apOk N y = false := by
  unfold apOk
  rw [decide_eq_false (nodup_no hk h)]; simp
theorem ap_yes {N : Int} {y : List Int} (h1 : nmOk N y = true) (h2 : N ≤ 4) (h : ∀ k, k < y.length → ¬ y.getD k 0 ∈ y.take k) : apOk N y = true := by
  unfold apOk
  rw [h1, decide_eq_true h2, decide_eq_true (nodup_yes h)]; rfl
theorem ap_facts {N : Int} {y : List Int} (h : apOk N y = true) : ∃ n : Nat, N = n ∧ 1 ≤ n ∧ n ≤ 4 ∧ y.length = n ∧ (∀ k, k < n → -9 ≤ y.getD k 0 ∧ y.getD k 0 ≤ 9) ∧ ∀ i j, i < n → j < n → i ≠ j → y.getD i 0 ≠ y.getD j 0 := by
  unfold apOk at h
  simp only [Bool.and_eq_true, decide_eq_true_eq] at h
  obtain ⟨⟨h1, h2⟩, h3⟩ := h
  obtain ⟨n, rfl, a, b, c, d⟩ := nm_facts h1
  refine ⟨n, rfl, a, by omega, c, d, fun i j hi hj hij e => ?_⟩
  rw [getD_lt (show i < y.length by omega), getD_lt (show j < y.length by omega)] at e
  rcases Nat.lt_or_gt_of_ne hij with h | h
  · exact List.pairwise_iff_getElem.1 h3 i j (by omega) (by omega) h e
  · exact List.pairwise_iff_getElem.1 h3 j i (by omega) (by omega) h e.symm

/-! ### values -/
theorem most_no {vs : List Int} {k : Nat} (hk : k < vs.length) (h : ¬ (-1000000000000 ≤ vs.getD k 0 ∧ vs.getD k 0 ≤ 1000000000000)) : mostB vs = false :=
  decide_eq_false fun e => h (e _ (getD_mem hk))
theorem most_yes {vs : List Int} (h : ∀ k, k < vs.length → -1000000000000 ≤ vs.getD k 0 ∧ vs.getD k 0 ≤ 1000000000000) : mostB vs = true := decide_eq_true (all_of_getD h)
theorem most_at {vs : List Int} (h : mostB vs = true) {k : Nat} (hk : k < vs.length) : -1000000000000 ≤ vs.getD k 0 ∧ vs.getD k 0 ≤ 1000000000000 := of_decide_eq_true h _ (getD_mem hk)

/-! ### two places exchanged -/
theorem OwnI.setG {T : TypeId} {w : World} {lo hi g n cap t : Nat} {D : List Int} (h : OwnI T w lo hi (.slice (some ⟨g, 0, none⟩) n cap) D) (ht : t < D.length) (x : Int) : OwnI T (w.setCell ⟨g, t, none⟩ (.int .i64 x)) lo hi (.slice (some ⟨g, 0, none⟩) n cap) (D.set t x) := by
  refine OwnF.ints ?_
  rw [List.length_set]
  refine (h.fn.set t _).congr fun j hj => ?_
  unfold iv
  by_cases e : j = t
  · subst e; simp [List.getD_eq_getElem?_getD, ht]
  · simp [e, List.getD_eq_getElem?_getD, List.getElem?_set_ne (fun h => e h.symm)]

end Go.Proofs.Ytcbjcmhnlakgbaa

namespace Go.Proofs.Ytcbjcmhnlakgbaa
set_option linter.all false
open Go.RowKit

theorem cdK_yes {xs : List Int} {i t : Nat} (h : xs.getD (i + 1 + t) 0 < xs.getD i 0) : cdK xs i (t + 1) = cdK xs i t + 1 := by
  unfold cdK
  rw [List.range_succ, List.filter_append]
  simp only [List.filter_cons, List.filter_nil, h, decide_true, if_true, List.length_append, List.length_singleton]
theorem cdK_no {xs : List Int} {i t : Nat} (h : ¬ xs.getD (i + 1 + t) 0 < xs.getD i 0) : cdK xs i (t + 1) = cdK xs i t := by
  unfold cdK
  rw [List.range_succ, List.filter_append]
  have e : List.filter (fun (s : Nat) => decide (xs.getD (i + 1 + s) 0 < xs.getD i 0)) [t] = [] := by
    rw [List.filter_cons, decide_eq_false h]; rfl
  rw [e, List.append_nil]
theorem cdK_le (xs : List Int) (i t : Nat) : cdK xs i t ≤ t := by
  unfold cdK
  exact Nat.le_trans (List.length_filter_le _ _) (by simp)
def cdF (xs : List Int) (i t j : Nat) : Nat := if j < i then cdA xs j else if j = i then cdK xs i t else 0
def cdL (xs : List Int) : List Int := (List.range xs.length).map fun i => (cdA xs i : Int)
theorem cdL_length (xs : List Int) : (cdL xs).length = xs.length := by simp [cdL]
theorem cdL_getD {xs : List Int} {i : Nat} (h : i < xs.length) : (cdL xs).getD i 0 = (cdA xs i : Int) := by simp [cdL, List.getD_eq_getElem?_getD, h]

end Go.Proofs.Ytcbjcmhnlakgbaa

namespace Go.Proofs.Ytcbjcmhnlakgbaa
set_option linter.all false
open Go.RowKit

/-- where the number j stands among the first k -/
def invK (xs : List Int) : Nat → Nat → Int
  | 0, _ => 0
  | k + 1, j => if (j : Int) = xs.getD k 0 then k else invK xs k j
def invL (xs : List Int) : List Int := (List.range xs.length).map (invK xs xs.length)
theorem invL_length (xs : List Int) : (invL xs).length = xs.length := by simp [invL]
theorem invL_getD {xs : List Int} {j : Nat} (h : j < xs.length) : (invL xs).getD j 0 = invK xs xs.length j := by simp [invL, List.getD_eq_getElem?_getD, h]

end Go.Proofs.Ytcbjcmhnlakgbaa

namespace Go.Proofs.Ytcbjcmhnlakgbaa
set_option linter.all false
open Go.RowKit

/-- the identity of n -/
def idL (n : Nat) : List Int := (List.range n).map fun (i : Nat) => (i : Int)
theorem idL_length (n : Nat) : (idL n).length = n := by simp [idL]
theorem idL_getD {n i : Nat} (h : i < n) : (idL n).getD i 0 = i := by simp [idL, List.getD_eq_getElem?_getD, h]
theorem idL_succ (n : Nat) : idL (n + 1) = idL n ++ [(n : Int)] := by simp [idL, List.range_succ]
theorem idL_ok {n : Nat} (h1 : 1 ≤ n) (h7 : n ≤ 7) : permOk (idL n) = true := by
  have : n = 1 ∨ n = 2 ∨ n = 3 ∨ n = 4 ∨ n = 5 ∨ n = 6 ∨ n = 7 := by omega
  rcases this with rfl | rfl | rfl | rfl | rfl | rfl | rfl <;> decide

end Go.Proofs.Ytcbjcmhnlakgbaa

namespace Go.Proofs.Ytcbjcmhnlakgbaa
set_option linter.all false
open Go.RowKit

def lnK (xs : List Int) : Nat → Nat
  | 0 => 0
  | k + 1 => lnK xs k + cdA xs k
/-- how many inversions -/
def lnN (xs : List Int) : Nat := lnK xs xs.length
theorem lnK_le (xs : List Int) (h : xs.length ≤ 10) : ∀ k, k ≤ xs.length → lnK xs k ≤ k * 10
  | 0, _ => Nat.le_refl _
  | k + 1, hk => by
    have a := lnK_le xs h k (by omega)
    have b := cdK_le xs k (xs.length - (k + 1))
    rw [lnK]
    unfold cdA
    omega
/-- the first place where a list goes down -/
def fdN (b : List Int) : Nat := ((List.range (b.length - 1)).find? fun k => !ascB k b).getD 0
def frN (w : List Int) : Nat := fdN (invL w)
/-- the values k and k + 1 exchanged -/
def frV (w : List Int) (k : Nat) : List Int := (w.set ((invL w).getD k 0).toNat ((k + 1 : Nat) : Int)).set ((invL w).getD (k + 1) 0).toNat (k : Int)
def frS (w : List Int) : List Int := frV w (frN w)
def firL : Nat → List Int → List Nat
  | 0, _ => []
  | f + 1, w => frN w :: firL f (frS w)
/-- the word of the reference -/
def fstL (w : List Int) : List Nat := firL (lnN w) w
/-- a word played -/
def play (r : List Nat) (u : List Int) : List Int := r.foldl (fun u k => sw k u) u

def firB (w : List Int) : Bool := decide (lnN w = 0) || (decide (frN w + 1 < w.length) && !ascB (frN w) (invL w) && (List.range (frN w)).all (fun j => ascB j (invL w)) && permOk (frS w) && decide (lnN (frS w) + 1 = lnN w) && (invL w).all (fun x => decide (0 ≤ x ∧ x < (w.length : Int))))
def wrdB (w : List Int) : Bool := decide (play (fstL w) (idL w.length) = w) && (fstL w).all (fun k => decide (k + 1 < w.length)) && decide ((fstL w).length ≤ 10) && decide (lnN w + upN w = w.length * (w.length - 1) / 2)
set_option maxRecDepth 100000 in
theorem fir_all : all5 firB = true := by decide +kernel
set_option maxRecDepth 100000 in
theorem wrd_all : all5 wrdB = true := by decide +kernel
structure FirAt (w : List Int) : Prop where
  lt : frN w + 1 < w.length
  down : ascB (frN w) (invL w) = false
  up : ∀ j, j < frN w → ascB j (invL w) = true
  ok : permOk (frS w) = true
  less : lnN (frS w) + 1 = lnN w
  rng : ∀ j, j < w.length → ∃ m : Nat, (invL w).getD j 0 = (m : Int) ∧ m < w.length
theorem fir_at {n : Nat} {w : List Int} (h : P5 n w) (h0 : lnN w ≠ 0) : FirAt w := by
  have := all5_at fir_all h.ok (by have := h.len; have := h.le; omega)
  unfold firB at this
  rw [decide_eq_false h0, Bool.false_or] at this
  simp only [Bool.and_eq_true, decide_eq_true_eq, List.all_eq_true, List.mem_range] at this
  obtain ⟨⟨⟨⟨⟨h1, h2⟩, h3⟩, h4⟩, h5⟩, h6⟩ := this
  refine ⟨h1, by simpa using h2, h3, h4, h5, fun j hj => ?_⟩
  have := h6 _ (getD_mem (show j < (invL w).length by rw [invL_length]; exact hj))
  exact ⟨((invL w).getD j 0).toNat, by omega, by omega⟩
theorem wrd_at {n : Nat} {w : List Int} (h : P5 n w) : play (fstL w) (idL n) = w ∧ (∀ k ∈ fstL w, k + 1 < n) ∧ (fstL w).length ≤ 10 ∧ lnN w + upN w = n * (n - 1) / 2 := by
  have := all5_at wrd_all h.ok (by have := h.len; have := h.le; omega)
  unfold wrdB at this
  rw [h.len] at this
  simp only [Bool.and_eq_true, decide_eq_true_eq, List.all_eq_true] at this
  exact ⟨this.1.1.1, this.1.1.2, this.1.2, this.2⟩
theorem P5.mk' {w : List Int} (h : permOk w = true) (h5 : w.length ≤ 5) : P5 w.length w := ⟨h, rfl, h5⟩
theorem P5.rng {n : Nat} {w : List Int} (h : P5 n w) {j : Nat} (hj : j < n) : ∃ m : Nat, w.getD j 0 = (m : Int) ∧ m < n := by
  have hp := h.ok
  simp only [permOk, decide_eq_true_eq] at hp
  have := hp.2.2.1 _ (getD_mem (show j < w.length by rw [h.len]; exact hj))
  rw [h.len] at this
  exact ⟨(w.getD j 0).toNat, by omega, by omega⟩
theorem P5.id {n : Nat} (h1 : 1 ≤ n) (h5 : n ≤ 5) : P5 n (idL n) := ⟨idL_ok h1 (by omega), idL_length n, h5⟩

end Go.Proofs.Ytcbjcmhnlakgbaa

namespace Go.Proofs.Ytcbjcmhnlakgbaa
set_option linter.all false
open Go.RowKit Go.Sort

variable {α : Type} [Inhabited α]
def swR (a b : Nat) : Nat → Array α → Array α
  | 0, d => d
  | k + 1, d => swp (swR a b k d) (a + k) (b + k)
theorem size_swR (a b : Nat) (d : Array α) : ∀ k, (swR a b k d).size = d.size
  | 0 => rfl
  | k + 1 => by rw [swR, size_swp, size_swR a b d k]
def rotA (m : Nat) : Nat → Nat → Nat → Array α → Array α
  | 0, _, _, d => d
  | f + 1, i, j, d => if i = j then swR (m - i) m i d else if j < i then rotA m f (i - j) j (swR (m - i) m j d) else rotA m f i (j - i) (swR (m - i) (m + j - i) i d)
theorem size_rotA (m : Nat) : ∀ (f i j : Nat) (d : Array α), (rotA m f i j d).size = d.size
  | 0, _, _, _ => rfl
  | f + 1, i, j, d => by
    rw [rotA]
    split
    · exact size_swR _ _ _ _
    · split
      · rw [size_rotA m f, size_swR]
      · rw [size_rotA m f, size_swR]
/-- the place that a search by halves finds -/
def bsA (p : Nat → Bool) : Nat → Nat → Nat → Nat
  | 0, i, _ => i
  | f + 1, i, j => if i < j then (if p ((i + j) / 2) then bsA p f ((i + j) / 2 + 1) j else bsA p f i ((i + j) / 2)) else i
theorem bsA_rng (p : Nat → Bool) : ∀ (f i j : Nat), i ≤ j → i ≤ bsA p f i j ∧ bsA p f i j ≤ j
  | 0, i, j, h => ⟨Nat.le_refl _, h⟩
  | f + 1, i, j, h => by
    rw [bsA]
    split
    · split
      · have := bsA_rng p f ((i + j) / 2 + 1) j (by omega); omega
      · have := bsA_rng p f i ((i + j) / 2) (by omega); omega
    · omega
theorem bsA_end (p : Nat → Bool) : ∀ (f i j : Nat), ¬ i < j → bsA p f i j = i
  | 0, _, _, _ => rfl
  | f + 1, i, j, h => by rw [bsA, if_neg h]
theorem bsA_up {p : Nat → Bool} {f i j : Nat} (hf : j - i ≤ f) (h : i < j) (hp : p ((i + j) / 2) = true) : bsA p f i j = bsA p (f - 1) ((i + j) / 2 + 1) j := by
  obtain ⟨t, rfl⟩ : ∃ t, f = t + 1 := ⟨f - 1, by omega⟩
  rw [bsA, if_pos h, if_pos hp]; rfl
theorem bsA_dn {p : Nat → Bool} {f i j : Nat} (hf : j - i ≤ f) (h : i < j) (hp : p ((i + j) / 2) = false) : bsA p f i j = bsA p (f - 1) i ((i + j) / 2) := by
  obtain ⟨t, rfl⟩ : ∃ t, f = t + 1 := ⟨f - 1, by omega⟩
  rw [bsA, if_pos h, hp]; rfl
def shUA (a : Nat) : Nat → Array α → Array α
  | 0, d => d
  | k + 1, d => swp (shUA a k d) (a + k) (a + k + 1)
def shDA (m : Nat) : Nat → Array α → Array α
  | 0, d => d
  | k + 1, d => swp (shDA m k d) (m - k) (m - k - 1)
theorem size_shUA (a : Nat) (d : Array α) : ∀ k, (shUA a k d).size = d.size
  | 0 => rfl
  | k + 1 => by rw [shUA, size_swp, size_shUA a d k]
theorem size_shDA (m : Nat) (d : Array α) : ∀ k, (shDA m k d).size = d.size
  | 0 => rfl
  | k + 1 => by rw [shDA, size_swp, size_shDA m d k]
section
variable (lt : α → α → Bool)
def sp1 (d : Array α) (a h : Nat) : Bool := lt d[h]! d[a]!
def sp2 (d : Array α) (m h : Nat) : Bool := !lt d[m]! d[h]!
def sp3 (d : Array α) (p c : Nat) : Bool := !lt d[p - c]! d[c]!
/-- where the search of the middle case begins and ends -/
def smLo (a m b : Nat) : Nat := if (a + b) / 2 < m then (a + b) / 2 + m - b else a
def smHi (a m b : Nat) : Nat := if (a + b) / 2 < m then (a + b) / 2 else m
def smAt (d : Array α) (a m b : Nat) : Nat := bsA (sp3 lt d ((a + b) / 2 + m - 1)) (smHi a m b - smLo a m b) (smLo a m b) (smHi a m b)
def symA : Nat → Nat → Nat → Nat → Array α → Array α
  | 0, _, _, _, d => d
  | f + 1, a, m, b, d =>
    if m - a = 1 then shUA a (bsA (sp1 lt d a) (b - m) m b - 1 - a) d
    else if b - m = 1 then shDA m (m - bsA (sp2 lt d m) (m - a) a m) d
    else
      let mid := (a + b) / 2
      let st := smAt lt d a m b
      let en := mid + m - st
      let d1 := if st < m ∧ m < en then rotA m (en - st) (m - st) (en - m) d else d
      let d2 := if a < st ∧ st < mid then symA f a st mid d1 else d1
      if mid < en ∧ en < b then symA f mid en b d2 else d2
theorem size_symA : ∀ (f a m b : Nat) (d : Array α), (symA lt f a m b d).size = d.size
  | 0, _, _, _, _ => rfl
  | f + 1, a, m, b, d => by
    rw [symA]
    split
    · exact size_shUA _ _ _
    · split
      · exact size_shDA _ _ _
      · dsimp only
        repeat' split
        all_goals simp only [size_symA f, size_rotA]
/-- the insertion sort, by another recursion -/
def insS (a b : Nat) : Nat → Nat → Array α → Array α
  | 0, _, d => d
  | f + 1, i, d => if i < b then insS a b f (i + 1) (insInner lt a i d) else d
theorem insS_eq (a b : Nat) : ∀ (f i : Nat) (d : Array α), b - i ≤ f → insOuter lt a b i d = insS lt a b f i d
  | 0, i, d, h => by rw [insOuter, if_neg (by omega), insS]
  | f + 1, i, d, h => by
    rw [insOuter, insS]
    split
    · exact insS_eq a b f (i + 1) _ (by omega)
    · rfl
end
/-- the sort of fewer than twenty, and of 24 -/
def stbA (lt : α → α → Bool) (d : Array α) : Array α :=
  if d.size < 20 then insertionSort lt d 0 d.size else symA lt d.size 0 20 d.size (insertionSort lt (insertionSort lt d 0 20) 20 d.size)
def stbS (lt : α → α → Bool) (d : Array α) : Array α :=
  if d.size < 20 then insS lt 0 d.size d.size 1 d else symA lt d.size 0 20 d.size (insS lt 20 d.size d.size 21 (insS lt 0 20 20 1 d))

end Go.Proofs.Ytcbjcmhnlakgbaa

namespace Go.Proofs.Ytcbjcmhnlakgbaa
set_option linter.all false
open Go.RowKit Go.Shelf Go.Sort Go.Lib

/-- a world, so many draws taken -/
def atd (w : World) (n : Nat) : World := { w with drawn := n }
theorem wp_region_quiet_z {P : Program} {id : Nat} {Q : Exit → Act → World → Prop} {a : Act} {w : World} {l : List Oper} (hm : P.follows .mixedOrders = true) (hB : Region.lexB .any l.toArray = true)
    (h : wpQuiet P l.toArray (fun w' => ∃ p : GrownBy, w' = grow (atd w p.n) p.os) (fun a' => ∀ w', (∃ p : GrownBy, w' = grow (atd w p.n) p.os) → Q .normal a' w') l a) : (Code.region id l.toArray true).wp P Q a w :=
  wp_region_quiet (C := fun w' => ∃ p : GrownBy, w' = grow (atd w p.n) p.os) hm hB ⟨⟨w.drawn + 1, #[]⟩, by rw [grow_empty]; rfl⟩ (by simpa using h)
theorem grow_atd (w : World) (n q : Nat) (os os' : Array Obj) : grow (atd (grow (atd w n) os) q) os' = grow (atd w q) (os ++ os') := by
  show grow (grow (atd w q) os) os' = _
  rw [grow_grow]
theorem grown_z {P : Program} {f : FuncId} {args : Array Value} {w : World} {n : Nat} {os : Array Obj} {v : Value}
    (h : Calls P f args (grow (atd w n) os) fun e w' => e = .returned v ∧ ∃ q os', w' = grow (atd (grow (atd w n) os) q) os') : Calls P f args (grow (atd w n) os) fun e w'' => e = .returned v ∧ ∃ p : GrownBy, w'' = grow (atd w p.n) p.os :=
  h.mono fun _ _ ⟨he, q, os', hq⟩ => ⟨he, ⟨q, os ++ os'⟩, by rw [hq, grow_atd]⟩
theorem below_grow {W w' : World} (h : Below W.heap.size W w') : ∃ q os', w' = grow (atd W q) os' := by
  refine ⟨w'.drawn, w'.heap.extract W.heap.size w'.heap.size, ?_⟩
  have hh : w'.heap = W.heap ++ w'.heap.extract W.heap.size w'.heap.size := by
    apply Array.ext_getElem?
    intro i
    by_cases hi : i < W.heap.size
    · rw [Array.getElem?_append_left hi]; exact h.block i hi
    · rw [Array.getElem?_append_right (by omega), Array.getElem?_extract]
      by_cases h2 : i < w'.heap.size
      · rw [if_pos (by omega)]; congr 1; omega
      · rw [if_neg (by omega), Array.getElem?_eq_none (by omega)]
  have h1 := h.os
  have h2 := h.tape
  have h3 := h.output
  obtain ⟨a1, a2, a3, a4, a5⟩ := w'
  obtain ⟨b1, b2, b3, b4, b5⟩ := W
  dsimp only at h1 h2 h3 hh ⊢
  unfold grow atd
  dsimp only
  rw [← hh, h1, h2, h3]

variable {P : Program} {α : Type} [Inhabited α] {enc : α → Value} {w0 W : World} {blk off : Nat} {dk d0 : Array α}
def SZ (enc : α → Value) (w0 : World) (blk off : Nat) (dk : Array α) (W : World) : Prop := ∃ n, SW enc w0 blk off dk (atd W n)
theorem SZ.start (h : Holds enc w0 blk off dk) : SZ enc w0 blk off dk w0 := ⟨w0.drawn, SW.start h⟩
theorem SZ.c1 (h : SZ enc w0 blk off dk W) (R : Row1 enc w0 blk off d0) (hs : dk.size = d0.size) (i : Nat) (hi : i < dk.size) : W.cell? ⟨blk, off + i, none⟩ = some (enc dk[i]!) := by
  obtain ⟨n, h⟩ := h
  exact h.c1 R hs i hi
theorem SZ.f1 (h : SZ enc w0 blk off dk W) (R : Row1 enc w0 blk off d0) (hs : dk.size = d0.size) (i : Nat) (hi : i < dk.size) : W.frozen? ⟨blk, off + i, none⟩ = false := by
  obtain ⟨n, h⟩ := h
  exact h.f1 R hs i hi
theorem SZ.grown (h : SZ enc w0 blk off dk W) (n : Nat) (os : Array Obj) : SZ enc w0 blk off dk (grow (atd W n) os) := by
  obtain ⟨m, h⟩ := h
  exact ⟨m, h.grown 0 os⟩
theorem SZ.cl (h : SZ enc w0 blk off dk W) (R : Row1 enc w0 blk off d0) (hs : dk.size = d0.size) (i : Nat) (hi : i < dk.size) (n : Nat) (os : Array Obj) : (grow (atd W n) os).cell? ⟨blk, off + i, none⟩ = some (enc dk[i]!) := (h.grown n os).c1 R hs i hi
theorem SZ.drew (h : SZ enc w0 blk off dk W) : SZ enc w0 blk off dk W.drew := by
  obtain ⟨m, h⟩ := h
  exact ⟨m, h⟩
theorem SZ.c2 (h : SZ enc w0 blk off dk W) (R : Row1 enc w0 blk off d0) (hs : dk.size = d0.size) (i j : Nat) (hi : i < dk.size) (hj : j < dk.size) (v : Value) :
    ∃ u, (W.setCell ⟨blk, off + i, none⟩ v).cell? ⟨blk, off + j, none⟩ = some u := by
  obtain ⟨m, h⟩ := h
  exact h.c2 R hs i j hi hj v
theorem SZ.swapped (h : SZ enc w0 blk off dk W) (R : Row1 enc w0 blk off d0) (i j : Nat) (hi : i < dk.size) (hj : j < dk.size) :
    SZ enc w0 blk off (swp dk i j) ((W.setCell ⟨blk, off + i, none⟩ (enc dk[j]!)).setCell ⟨blk, off + j, none⟩ (enc dk[i]!)).drew := by
  obtain ⟨m, h⟩ := h
  exact ⟨m, h.swap R.hblk i j hi hj⟩
/-- what is asked of the closure -/
def CmpZ (P : Program) (g : Nat) (cb : Array Value) (enc : α → Value) (cf : α → α → Int) (blk off size : Nat) (w0 : World) : Prop :=
  ∀ (W : World) (dk : Array α), SZ enc w0 blk off dk W → dk.size = size → ∀ x y : α,
    Calls P g (#[enc x, enc y] ++ cb) W fun e w' => e = .returned (.int .i64 (cf x y)) ∧ Below W.heap.size W w'
theorem SZ.cmp {g : Nat} {cb : Array Value} {cf : α → α → Int} {size : Nat} (h : SZ enc w0 blk off dk W) (hC : CmpZ P g cb enc cf blk off size w0) (hs : dk.size = size) (x y : α) (n : Nat) (os : Array Obj) :
    Calls P g (#[enc x, enc y] ++ cb) (grow (atd W n) os) fun e w' => e = .returned (.int .i64 (cf x y)) ∧ ∃ q os', w' = grow (atd (grow (atd W n) os) q) os' :=
  (hC _ dk (h.grown n os) hs x y).mono fun _ _ ⟨he, hb⟩ => ⟨he, below_grow hb⟩

end Go.Proofs.Ytcbjcmhnlakgbaa

namespace Go.Proofs.Ytcbjcmhnlakgbaa
set_option linter.all false
open Go.RowKit Go.Sort Go.Shelf

variable {α : Type} [Inhabited α]
theorem swd_at (enc : α → Value) {w : World} {blk : Nat} {c : Array Value} {T : TypeId} (h : w.heap[blk]? = some (.cells c T (0, 0))) (m : Nat) (d : Array α) (os : Array Obj) :
    (sortWorld enc w blk 0 m d os).heap[blk]? = some (.cells (putCells enc 0 d c) T (0, 0)) := by
  have hlt : blk < w.heap.size := blk_lt h
  unfold sortWorld
  rw [heap_grow_old _ _ (by rw [size_putRow]; exact hlt)]
  unfold putRow mapBlock
  simp only [Array.getElem?_modify]
  have : (Sort.ahead w m).heap = w.heap := rfl
  rw [this, h]
  simp [onCells]
theorem swd_other (enc : α → Value) {w : World} {blk k : Nat} (hk : k < w.heap.size) (hne : k ≠ blk) (m : Nat) (d : Array α) (os : Array Obj) :
    (sortWorld enc w blk 0 m d os).heap[k]? = w.heap[k]? := by
  unfold sortWorld
  rw [heap_grow_old _ _ (by rw [size_putRow]; exact hk)]
  unfold putRow mapBlock
  simp only [Array.getElem?_modify]
  have : (Sort.ahead w m).heap = w.heap := rfl
  rw [this, if_neg (fun e => hne e.symm)]
theorem swd_size (enc : α → Value) (w : World) (blk m : Nat) (d : Array α) (os : Array Obj) :
    w.heap.size ≤ (sortWorld enc w blk 0 m d os).heap.size := by
  unfold sortWorld
  rw [size_grow, size_putRow]
  exact Nat.le_add_right _ _
theorem SZ.heap {enc : α → Value} {w W : World} {blk : Nat} {d : Array α} (h : SZ enc w blk 0 d W) : ∃ q os, W.os = w.os ∧ W.tape = w.tape ∧ W.output = w.output ∧ W.heap = (sortWorld enc w blk 0 q d os).heap := by
  obtain ⟨n, q, os, h⟩ := h
  refine ⟨q, os, ?_, ?_, ?_, ?_⟩
  · have := congrArg World.os h; exact this
  · have := congrArg World.tape h; exact this
  · have := congrArg World.output h; exact this
  · have := congrArg World.heap h; exact this
theorem SZ.frm {enc : α → Value} {w W : World} {blk lo hi : Nat} {d : Array α} (h : SZ enc w blk 0 d W) (h1 : lo ≤ blk) (h2 : blk < hi) : Frm lo hi w W := by
  obtain ⟨q, os, e1, e2, e3, e4⟩ := h.heap
  exact ⟨e1, e2, e3, by rw [e4]; exact swd_size _ _ _ _ _ _, fun k hk ho => by rw [e4]; exact swd_other enc hk (by omega) q d os⟩
theorem SZ.at_ {enc : α → Value} {w W : World} {blk : Nat} {d : Array α} (h : SZ enc w blk 0 d W) {c : Array Value} {T : TypeId} (hc : w.heap[blk]? = some (.cells c T (0, 0))) : W.heap[blk]? = some (.cells (putCells enc 0 d c) T (0, 0)) := by
  obtain ⟨q, os, e1, e2, e3, e4⟩ := h.heap
  rw [e4]
  exact swd_at enc hc q d os

end Go.Proofs.Ytcbjcmhnlakgbaa

namespace Go.Proofs.Ytcbjcmhnlakgbaa
set_option linter.all false
set_option maxRecDepth 100000
open Go.RowKit Go.Sort Go.Shelf

def Gw (w w' : World) : Prop := ∃ q os, w' = grow (w.drewN q) os
namespace Gw
variable {a b c w w' : World}
theorem refl (w : World) : Gw w w := ⟨0, #[], by rw [grow_empty]; rfl⟩
theorem trans (h : Gw a b) (k : Gw b c) : Gw a c := by
  obtain ⟨q, os, rfl⟩ := h
  obtain ⟨q', os', rfl⟩ := k
  refine ⟨q + q', os ++ os', ?_⟩
  rw [← grow_grow]
  have : (grow (a.drewN q) os).drewN q' = grow (a.drewN (q + q')) os := by
    unfold grow World.drewN
    simp [Nat.add_assoc]
  rw [this]
theorem drewN (h : Gw a b) (n : Nat) : Gw a (b.drewN n) := h.trans ⟨n, #[], by rw [grow_empty]⟩
theorem drew (h : Gw a b) : Gw a b.drew := h.drewN 1
theorem qt (h : Gw a b) (k : Qt b c) : Gw a c := by
  obtain ⟨n, rfl⟩ := k
  exact h.drewN n
theorem alloc (h : Gw a b) (o : Obj) : Gw a (b.alloc o) := h.trans ⟨0, #[o], by rw [alloc_eq_grow]; rfl⟩
theorem size (h : Gw a b) : a.heap.size ≤ b.heap.size := by
  obtain ⟨q, os, rfl⟩ := h
  rw [size_grow]
  exact Nat.le_add_right _ _
theorem below (h : Gw a b) : Below a.heap.size a b := by
  obtain ⟨q, os, rfl⟩ := h
  exact ⟨rfl, rfl, rfl, by rw [size_grow]; exact Nat.le_add_right _ _, fun k hk => heap_grow_old (a.drewN q) os hk⟩
theorem setCell (h : Gw a b) {p : Addr} (hp : a.heap.size ≤ p.block) (u : Value) : Gw a (b.setCell p u) := by
  obtain ⟨q, os, rfl⟩ := h
  refine ⟨q, (((grow (a.drewN q) os).setCell p u).heap.extract a.heap.size ((grow (a.drewN q) os).setCell p u).heap.size), ?_⟩
  have hs : ((grow (a.drewN q) os).setCell p u).heap.size = a.heap.size + os.size := by
    rw [size_setCell, size_grow]; rfl
  have hh : ((grow (a.drewN q) os).setCell p u).heap = (a.drewN q).heap ++ (((grow (a.drewN q) os).setCell p u).heap.extract a.heap.size ((grow (a.drewN q) os).setCell p u).heap.size) := by
    apply Array.ext_getElem?
    intro i
    by_cases hi : i < a.heap.size
    · rw [Array.getElem?_append_left (by exact hi), Below.heap_setCell _ _ _ _ (by omega)]
      exact heap_grow_old (a.drewN q) os hi
    · rw [Array.getElem?_append_right (by show a.heap.size ≤ i; omega), Array.getElem?_extract]
      show _ = if i - a.heap.size < _ - a.heap.size then _ else _
      rw [hs]
      by_cases h2 : i < a.heap.size + os.size
      · rw [if_pos (by omega)]
        congr 1
        show i = a.heap.size + (i - a.heap.size)
        omega
      · rw [if_neg (by omega), Array.getElem?_eq_none (by rw [hs]; omega)]
  have e : ∀ (x y : World), x.heap = y.heap → x.tape = y.tape → x.drawn = y.drawn → x.os = y.os → x.output = y.output → x = y := by
    rintro ⟨_, _, _, _, _⟩ ⟨_, _, _, _, _⟩ h1 h2 h3 h4 h5
    cases h1; cases h2; cases h3; cases h4; cases h5
    rfl
  exact e _ _ hh rfl rfl rfl rfl
end Gw

end Go.Proofs.Ytcbjcmhnlakgbaa

namespace Go.Proofs.Ytcbjcmhnlakgbaa
set_option linter.all false
set_option maxRecDepth 100000
open Go.RowKit Go.Sort Go.Shelf

def cel (c : Cel) : Value := .agg #[.int .i64 c.1, .int .i64 c.2]
/-- small numbers -/
def CelB (c : Cel) : Prop := 0 ≤ c.1 ∧ c.1 ≤ 10 ∧ 0 ≤ c.2 ∧ c.2 ≤ 10

set_option maxHeartbeats 2000000 in
theorem byCells_any (a b : Cel) (ha : CelB a) (hb : CelB b) (w : World) :
    Calls Try.prog 20 #[cel a, cel b] w fun e w' => e = .returned (.int .i64 (cmpC a b)) ∧ Gw w w' := by
  obtain ⟨a1, a2⟩ := a
  obtain ⟨b1, b2⟩ := b
  unfold CelB at ha hb
  obtain ⟨x1, x2, x3, x4⟩ := ha
  obtain ⟨y1, y2, y3, y4⟩ := hb
  dsimp only at x1 x2 x3 x4 y1 y2 y3 y4
  have g := ((Gw.refl w).alloc (.cells #[.int .i64 a1, .int .i64 a2] 41)).alloc (.cells #[.int .i64 b1, .int .i64 b2] 41)
  have Hg := Lib.hid g
  clear g
  have hc : cmpC (a1, a2) (b1, b2) = if a1 = b1 then a2 - b2 else a1 - b1 := rfl
  have w1 : IntKind.i64.wrap (a1 - b1) = a1 - b1 := k64 (by omega) (by omega)
  have w2 : IntKind.i64.wrap (a2 - b2) = a2 - b2 := k64 (by omega) (by omega)
  unfold cel
  by_cases e : a1 = b1
  · have hne : (a1 != b1) = false := by simp [e]
    rw [if_pos e] at hc
    have Hc := Lib.hid hc
    clear hc e
    go_enter Try.func20, Try.ntmps20
    go_wp2_with fail
    go_ret
    exact ⟨by rw [Hc.out]; first | rfl | exact ret_int w2, Hg.out⟩
  · have hne : (a1 != b1) = true := by simp [e]
    rw [if_neg e] at hc
    have Hc := Lib.hid hc
    clear hc e
    go_enter Try.func20, Try.ntmps20
    go_wp2_with fail
    go_ret
    exact ⟨by rw [Hc.out]; first | rfl | exact ret_int w1, Hg.out⟩

theorem swo_cmp {α : Type} {cmp : α → α → Int} (H : Cmp cmp) (R : Nat → α) : SWO (ltOf fun i j => cmp (R i) (R j)) where
  irrefl x := by simp [ltOf, H.self]
  trans x y z h1 h2 := by
    simp only [ltOf, decide_eq_true_eq, H.lt] at *
    intro h3
    rcases H.swap (R x) (R y) with h4 | h4
    · exact h2 (H.trans _ _ _ h3 h4)
    · exact h1 h4
  ntrans x y z h1 h2 := by
    simp only [ltOf, decide_eq_false_iff_not, H.lt, Decidable.not_not] at *
    exact H.trans _ _ _ h2 h1

set_option maxHeartbeats 1000000 in
theorem sortG_any (v : Value) (cs : Drm) (lo hi : Nat) (w : World) (h : OwnC w lo hi v cs) (hok : okD cs = true) :
    Calls Try.prog 19 #[v, .func (.func 20) #[] #[]] w fun e w' =>
      e = .returned (.tuple #[]) ∧ OwnC w' lo hi v (srtC cs) ∧ Frm lo hi w w' := by
  have hcl := h
  have hlen := (okD_at hok).1
  have hcell := cellVs_get cs
  have hrow := h.1
  rcases hrow.2 with ⟨rfl, h0⟩ | ⟨g, cap, cur, rfl, _, hgc, hnc, hcm, hsz, htk⟩
  · have hcs : cs = [] := List.eq_nil_of_length_eq_zero h0
    subst hcs
    have hcon := AnyF.slices_SortFunc_none (P := Try.prog) (ρ := Try.sortG_ren) Try.sortG none 0 (.func (.func 20) #[] #[]) w
    change Calls Try.prog 19 _ _ _ at hcon
    refine hcon.mono ?_
    rintro e w' ⟨rfl, rfl⟩
    exact ⟨rfl, hcl, Frm.refl _ _ _⟩
  · by_cases h0 : cs.length = 0
    · have hcs : cs = [] := List.eq_nil_of_length_eq_zero h0
      subst hcs
      have hcon := AnyF.slices_SortFunc_none (P := Try.prog) (ρ := Try.sortG_ren) Try.sortG (some ⟨g, 0, none⟩) cap (.func (.func 20) #[] #[]) w
      change Calls Try.prog 19 _ _ _ at hcon
      refine hcon.mono ?_
      rintro e w' ⟨rfl, rfl⟩
      exact ⟨rfl, hcl, Frm.refl _ _ _⟩
    · obtain ⟨hg1, hg2, _⟩ := Own.block h (k := g) rfl
      have hcells := hcl.rd
      obtain ⟨p', cap', ep, _, hcells⟩ := hcells
      injection ep with ep1 ep2 ep3
      subst ep1 ep3
      obtain ⟨b, eb, hcells⟩ := hcells (by omega)
      injection eb with eb
      injection eb with eb
      subst eb
      obtain ⟨n, hN⟩ : ∃ n, n = cs.length := ⟨_, rfl⟩
      have enter : ∀ args w, (callFunc 20 args).run Try.prog w = .ok (.enter 20 args) w := enters_of Try.func20 (by kernel_rfl) rfl
      obtain ⟨R, hR⟩ : ∃ R : Nat → Cel, R = fun i => cs.getD i ceD := ⟨_, rfl⟩
      have hRb : ∀ i, CelB (R i) := fun i => by rw [hR]; exact okD_getD hok i
      have hcmp : CmpLays Try.prog 20 #[] (fun i => [.int .i64 (R i).1, .int .i64 (R i).2]) 2 (fun i j => cmpC (R i) (R j)) g 0 (Array.range n).size w := by
        intro m os dk _ x y
        exact byCells_any (R x) (R y) (hRb x) (hRb y) _
      have sz : (Array.range n).size = n := by simp
      have hH : HoldsK (fun i => [.int .i64 (R i).1, .int .i64 (R i).2]) 2 w g 0 (Array.range n) := fun j hj => by
        rw [size_flatK, sz] at hj
        rw [get_flatK _ _ _ _ (by rw [sz]; exact hj), Nat.zero_add]
        have hj2 : j / 2 < n := by omega
        have e : (Array.range n)[j / 2]! = j / 2 := by rw [getElem!_pos _ _ (by simpa using hj2)]; simp
        rw [e]
        refine ⟨?_, free_of_blk hgc j⟩
        obtain ⟨k1, k2⟩ := hcells (j / 2) (by omega)
        have hm : j % 2 = 0 ∨ j % 2 = 1 := by omega
        rcases hm with hm | hm
        · rw [show j / 2 * 2 = j by omega] at k1
          rw [k1, hm, hR]
          rfl
        · rw [show j / 2 * 2 + 1 = j by omega] at k2
          rw [k2, hm, hR]
          rfl
      have hcon := AnyQ.slices_SortFunc Try.sortG 2 (by intro w; exact Try.isAgg41 w) (by intro w; exact Try.sizeOf41 w) (fun i => [.int .i64 (R i).1, .int .i64 (R i).2]) (fun _ => rfl) (fun x v hv => by
        simp only [List.mem_cons, List.not_mem_nil, or_false] at hv
        rcases hv with rfl | rfl <;> rfl) (fun i j => cmpC (R i) (R j)) (swo_cmp cmpC_ok R) 20 #[] g 0 cap (Array.range n) w enter hcmp hH (blk_lt hgc) (by rw [sz]; omega)
      change Calls Try.prog 19 _ _ _ at hcon
      rw [sz] at hcon
      rw [← hN]
      refine hcon.mono ?_
      rintro e w' ⟨rfl, d', m, os, hp1, hs1, hw'⟩
      have hw2 : w' = sortWorld id w g 0 m (flatK (fun i => [.int .i64 (R i).1, .int .i64 (R i).2]) 2 d') os := hw'
      clear hw'
      subst hw2
      have hds : d'.size = n := by simpa using hp1.1
      have hperm : d'.toList.Perm (List.range n) := by
        have h1 := hp1.2.2
        have e1 : d'.extract 0 n = d' := by rw [← hds]; simp
        have e2 : (Array.range n).extract 0 n = Array.range n := by
          have := Array.extract_size (xs := Array.range n)
          rwa [Array.size_range] at this
        rw [e1, e2] at h1
        simpa using h1
      have hat : ∀ i (hi : i < n), d'[i]! = d'.toList[i]'(by simpa [hds] using hi) := fun i hi => by
        rw [getElem!_pos d' i (by omega)]; simp
      have hl : (d'.toList.map R).length = n := by simp [hds]
      have hgd : ∀ i, i < n → (d'.toList.map R).getD i ceD = R d'[i]! := fun i hi => by
        rw [List.getD_eq_getElem?_getD, List.getElem?_map, hat i hi, List.getElem?_eq_getElem (by simpa [hds] using hi)]
        rfl
      have hcs : d'.toList.map R = srtC cs := by
        rw [srtC_eq]
        refine Cmp.srt_eq cmpC_ok ?_ ?_
        · refine (hperm.map _).trans (List.Perm.of_eq ?_)
          apply List.ext_getElem?
          intro i
          rw [List.getElem?_map]
          by_cases hi : i < n
          · rw [List.getElem?_range hi, Option.map_some, hR]
            dsimp only
            rw [List.getD_eq_getElem?_getD, List.getElem?_eq_getElem (by omega)]; rfl
          · rw [List.getElem?_eq_none (by simp; omega), List.getElem?_eq_none (by omega)]; rfl
        · rw [List.pairwise_iff_getElem]
          intro i j hi hj hij
          have hi' : i < n := by omega
          have hj' : j < n := by omega
          have h1 := hs1 i j (Nat.zero_le _) hij hj'
          simp only [ltOf] at h1
          rw [List.getElem_map, List.getElem_map, ← hat i hi', ← hat j hj']
          exact h1
      have hfr : Frm lo hi w (sortWorld id w g 0 m (flatK (fun i => [.int .i64 (R i).1, .int .i64 (R i).2]) 2 d') os) :=
        ⟨rfl, rfl, rfl, swd_size _ _ _ _ _ _, fun k hk ho => swd_other id hk (by omega) m _ os⟩
      refine ⟨rfl, ?_, hfr⟩
      rw [← hcs]
      have hflat : ∀ t, t < n * 2 → (putCells id 0 (flatK (fun i => [.int .i64 (R i).1, .int .i64 (R i).2]) 2 d') cur)[t]? = (cellVs (d'.toList.map R))[t]? := fun t ht => by
        have htc : t < cur.size := by omega
        simp only [putCells, Array.getElem?_mapIdx, Array.getElem?_eq_getElem htc, Option.map_some, Nat.zero_le, true_and, Nat.zero_add, Nat.sub_zero, size_flatK, hds, ht, if_true, id]
        rw [get_flatK _ _ _ _ (by rw [hds]; exact ht)]
        have ht2 : t / 2 < n := by omega
        have hm : t % 2 = 0 ∨ t % 2 = 1 := by omega
        obtain ⟨q1, q2⟩ := cellVs_get (d'.toList.map R) (t / 2) (by rw [hl]; exact ht2)
        change _ = some (Value.int IntKind.i64 ((d'.toList.map R).getD (t / 2) ceD).1) at q1
        change _ = some (Value.int IntKind.i64 ((d'.toList.map R).getD (t / 2) ceD).2) at q2
        rw [hgd _ ht2] at q1 q2
        rcases hm with hm | hm
        · rw [show t / 2 * 2 = t by omega] at q1
          rw [q1, hm]
          rfl
        · rw [show t / 2 * 2 + 1 = t by omega] at q2
          rw [q2, hm]
          rfl
      have hlc : (cellVs (d'.toList.map R)).length = n * 2 := by rw [cellVs_length, hl]
      refine ⟨⟨by rw [cellVs_length], .inr ⟨g, cap, _, by rw [hl], hg1, swd_at id hgc m _ os, by omega, hcm, ?_, ?_⟩⟩, fun k hk => ?_⟩
      · simp [putCells, hsz]
      · rw [hl]
        apply List.ext_getElem?
        intro t
        by_cases ht : t < n * 2
        · first
            | rw [List.getElem?_take, if_pos ht, Array.getElem?_toList, hflat t ht]
            | rw [hflat t ht]
        · rw [List.getElem?_eq_none (by simp [putCells, hsz]; omega), List.getElem?_eq_none (by omega)]
      · simp [Value.ownBlock] at hk; omega

end Go.Proofs.Ytcbjcmhnlakgbaa
