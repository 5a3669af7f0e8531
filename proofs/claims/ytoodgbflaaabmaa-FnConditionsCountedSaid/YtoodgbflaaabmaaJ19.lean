/-
  The shapes in a box: spec.ShapesIn, laws.boxShapes.
  The shapes in a box as the program makes them, their sums, the numbers of spaces.
  GaussCounts, CountSpaces.
-/
import Derived.Test.YtoodgbflaaabmaaJ6
import Derived.Test.YtoodgbflaaabmaaJ4
import Derived.Test.YtoodgbflaaabmaaJ17
import Derived.Test.YtoodgbflaaabmaaJ2
import Derived.Test.YtoodgbflaaabmaaJ14
namespace Go.Proofs.Ytoodgbflaaabmaa
set_option linter.all false
open Go.RowKit

/-- the shapes that begin with some parts, with at most so many parts more, none greater than m -/
def shs : Nat → Nat → List Int → List (List Int)
  | 0, _, front => [front]
  | r + 1, m, front => front :: (List.range m).flatMap fun (n : Nat) => shs r (n + 1) (front ++ [((n + 1 : Nat) : Int)])
theorem shs_len : ∀ (r m : Nat) (front : List Int), (shs r m front).length ≤ (m + 1) ^ r
  | 0, m, front => by simp [shs]
  | r + 1, m, front => by
    rw [shs, List.length_cons]
    have key : ∀ k, k ≤ m → ((List.range k).flatMap fun (n : Nat) => shs r (n + 1) (front ++ [((n + 1 : Nat) : Int)])).length ≤ k * (m + 1) ^ r := by
      intro k
      induction k with
      | zero => intro _; simp
      | succ k ih =>
        intro hk
        rw [flatMap_snoc, List.length_append, Nat.succ_mul]
        have a := ih (by omega)
        have b := shs_len r (k + 1) (front ++ [((k + 1 : Nat) : Int)])
        have c : (k + 1 + 1) ^ r ≤ (m + 1) ^ r := Nat.pow_le_pow_left (by omega) r
        omega
    have a := key m (Nat.le_refl m)
    have b : 1 ≤ (m + 1) ^ r := Nat.one_le_pow _ _ (by omega)
    rw [Nat.pow_succ, Nat.mul_add]
    rw [Nat.mul_comm ((m + 1) ^ r) m]
    omega
theorem shs_len' (r m k : Nat) (front : List Int) (hk : k ≤ m) : ((List.range k).flatMap fun (n : Nat) => shs r (n + 1) (front ++ [((n + 1 : Nat) : Int)])).length ≤ k * (m + 1) ^ r := by
  induction k with
  | zero => simp
  | succ k ih =>
    rw [flatMap_snoc, List.length_append, Nat.succ_mul]
    have a := ih (by omega)
    have b := shs_len r (k + 1) (front ++ [((k + 1 : Nat) : Int)])
    have c : (k + 1 + 1) ^ r ≤ (m + 1) ^ r := Nat.pow_le_pow_left (by omega) r
    omega

theorem grown_after {w w1 w' : World} {b : Option Nat} (hb : Below w.heap.size w w1) (hg : w1.grownBy w' b) : w.grownBy w' b :=
  ⟨hg.os.trans hb.os, hg.tape.trans hb.tape, hg.output.trans hb.output, Nat.le_trans hb.size hg.size, fun k hk hne => (hg.block k (Nat.lt_of_lt_of_le hk hb.size) hne).trans (hb.block k hk)⟩
theorem grown_chain {w w1 w' : World} {a b : Option Nat} (h1 : w.grownBy w1 a) (h2 : w1.grownBy w' b) (hab : ∀ k, b = some k → a = some k ∨ w.heap.size ≤ k) : w.grownBy w' a :=
  ⟨h2.os.trans h1.os, h2.tape.trans h1.tape, h2.output.trans h1.output, Nat.le_trans h1.size h2.size, fun k hk hne => (h2.block k (Nat.lt_of_lt_of_le hk h1.size) (fun e => by
    rcases hab k e.symm with h | h
    · exact hne h.symm
    · omega)).trans (h1.block k hk hne)⟩
theorem grown_then {w w1 w' : World} {a : Option Nat} (h1 : w.grownBy w1 a) (hb : Below w1.heap.size w1 w') : w.grownBy w' a :=
  ⟨hb.os.trans h1.os, hb.tape.trans h1.tape, hb.output.trans h1.output, Nat.le_trans h1.size hb.size, fun k hk hne => (hb.block k (Nat.lt_of_lt_of_le hk h1.size)).trans (h1.block k hk hne)⟩
/-- a row keeps what it holds where another slice grew -/
theorem OwnI.grownBy {Ts Ti : TypeId} {w w' : World} {lo mid lo1 hi1 n : Nat} {lv fv : Value} {f : Nat → Value} {xs : List Int} (h : OwnI Ti w lo1 hi1 fv xs) (hg : w.grownBy w' lv.ownBlock) (hl : OwnF w lo mid Ts lv n f) (hT : Ts ≠ Ti) : OwnI Ti w' lo1 hi1 fv xs :=
  ⟨ownsRow_of_block h.1 fun k hk => hg.block k (Own.block h hk).2.2 fun e => own_types hl h hT e.symm hk, h.2⟩

/-- a row of its own is put behind the others, its block told apart outright -/
theorem OwnII.snocD {Ts Ti : TypeId} {w w' : World} {lo hi : Nat} {v v' x : Value} {rows : List (List Int)} {xs : List Int} {f : Nat → Value} (g1 : OwnF w lo hi Ts v rows.length f) (g2 : ∀ i, i < rows.length → OwnI Ti w lo hi (f i) (rows.getD i []))
    (g3 : ∀ i j, i < j → j < rows.length → ∀ k, (f i).ownBlock = some k → (f j).ownBlock ≠ some k) (hx : OwnI Ti w lo hi x xs) (hd : ∀ i, i < rows.length → ∀ k, (f i).ownBlock = some k → x.ownBlock ≠ some k) (hT : Ts ≠ Ti)
    (hg : w.grownBy w' v.ownBlock) (hsz : hi ≤ w'.heap.size)
    (hv : OwnF w' lo w'.heap.size Ts v' (rows.length + 1) (fun j => if j < rows.length then f j else x)) : OwnII Ts Ti w' lo w'.heap.size v' (rows ++ [xs]) := by
  refine ⟨_, by rw [List.length_append]; exact hv, fun i hi => ?_, fun i j hij hj k hk => ?_⟩
  · rw [List.length_append] at hi
    simp only [List.length_singleton] at hi
    by_cases hlt : i < rows.length
    · have e : (rows ++ [xs]).getD i [] = rows.getD i [] := by simp [List.getD_eq_getElem?_getD, List.getElem?_append_left hlt]
      simp only [hlt, if_true]
      rw [e]
      exact ((g2 i hlt).grownBy hg g1 hT).mono (Nat.le_refl _) hsz
    · have e : (rows ++ [xs]).getD i [] = xs := by
        have : i = rows.length := by omega
        subst this
        simp [List.getD_eq_getElem?_getD]
      simp only [hlt, if_false]
      rw [e]
      exact (hx.grownBy hg g1 hT).mono (Nat.le_refl _) hsz
  · rw [List.length_append] at hj
    simp only [List.length_singleton] at hj
    by_cases hlt : j < rows.length
    · simp only [hlt, if_true]
      simp only [show i < rows.length by omega, if_true] at hk
      exact g3 i j hij hlt k hk
    · simp only [hlt, if_false]
      simp only [show i < rows.length by omega, if_true] at hk
      exact hd i (by omega) k hk

/-- what l4Shapes does -/
def L4Q (w : World) (lo : Nat) (lv : Value) (L : List (List Int)) (e : Ending) (w' : World) : Prop :=
  ∃ v', e = .returned v' ∧ OwnII 24 3 w' lo w'.heap.size v' L ∧ w.grownBy w' lv.ownBlock ∧ ∀ b, v'.ownBlock = some b → lv.ownBlock = some b ∨ w.heap.size ≤ b

set_option maxRecDepth 100000 in
set_option maxHeartbeats 4000000 in
theorem l4Shapes_go (r : Nat) : ∀ (R M : Int) (m : Nat) (front : List Int) (fv : Value) (l : List (List Int)) (lv : Value) (lo hi : Nat) (f : Nat → Value) (w : World), R = (r : Int) → M = (m : Int) →
    OwnF w lo hi 24 lv l.length f → (∀ i, i < l.length → OwnI 3 w lo hi (f i) (l.getD i [])) → (∀ i j, i < j → j < l.length → ∀ k, (f i).ownBlock = some k → (f j).ownBlock ≠ some k) → OwnI 3 w lo hi fv front → (∀ i, i < l.length → ∀ k, (f i).ownBlock = some k → fv.ownBlock ≠ some k) → lo ≤ hi → hi ≤ w.heap.size → front.length + r ≤ 100 → l.length + (m + 1) ^ r ≤ 1000000 → m ≤ 100 →
    Calls Try.prog 77 #[fv, .int .i64 R, .int .i64 M, lv] w (L4Q w lo lv (l ++ shs r m front)) := by
  induction r with
  | zero =>
    intro R M m front fv l lv lo hi f w hR hM g1 g2 g3 hf g4 h2 h3 h4 h5 h6
    subst hM
    have hll : l.length ≤ 1000000 := by rw [Nat.pow_zero] at h5; omega
    clear h5
    obtain ⟨p, k, rfl, _, _⟩ := hf.shape
    have G1 := Lib.hid g1
    have G4 := Lib.hid g4
    have G2 := Lib.hid g2
    have G3 := Lib.hid g3
    have HF := Lib.hid hf
    obtain ⟨p0, k0, rfl, _, _⟩ := g1.shape
    obtain ⟨ls, hls⟩ : ∃ ls, ls = l.length := ⟨_, rfl⟩
    have Hls := Lib.hid hls
    have Hd1 := Lib.hid (show l.length + 1 ≤ maxLen by unfold maxLen; omega)
    have Hd2 := Lib.hid (show (l.length + 1) * 24 ≤ 140737488355328 by omega)
    clear g1 g2 g3 g4 hf hls hll
    subst hR
    go_enter Try.func77, Try.ntmps77
    go_wp2_with (at_builtin; go_must (refine wpList_append_G rfl (.tmp 10) (.tmp 12) 42 rfl 24 (.slice none 0 0) 24 Try.underlying42 info_sl rfl lo hi _ l.length f rfl (G1.out.below (below_alloc w _)) (by simp; omega) (by simp; omega) _ 1 _ rfl (rd_one _ _ _ rfl) (fun j _ => rfl) Hd1.out Hd2.out ?_; intro v2 w2 ho2 hg2 hw2))
    have hb := below_alloc w (.cells #[.slice p front.length k] 24)
    have hs := OwnII.snocD (G1.out.below hb) (fun i hi => (G2.out i hi).below hb) G3.out (HF.out.below hb) G4.out (by decide) hg2 (by have := hg2.size; simp at this; omega) (ho2.congr fun j hj => by by_cases e : j < l.length <;> simp [e])
    have Hs := Lib.hid hs
    have Hg := Lib.hid (grown_after hb hg2)
    have Hw := Lib.hid hw2
    obtain ⟨p2, k2, rfl, _, _⟩ := hs.shape
    clear hs hg2 hw2 ho2 hb
    go_wp2_with fail
    go_ret
    exact ⟨_, rfl, Hs.out, Hg.out, fun b hb => (Hw.out b hb).imp id fun h => by simp at h; omega⟩
  | succ r ih =>
    intro R M m front fv l lv lo hi f w hR hM g1 g2 g3 hf g4 h2 h3 h4 h5 h6
    subst hM
    have hp1 : 1 ≤ (m + 1) ^ r := Nat.one_le_pow _ _ (by omega)
    obtain ⟨q, hq⟩ : ∃ q, q = (m + 1) ^ r := ⟨_, rfl⟩
    rw [Nat.pow_succ, ← hq, Nat.mul_comm, Nat.succ_mul] at h5
    rw [← hq] at hp1
    have Hq := Lib.hid hq
    have Hmq := Lib.hid h5
    have hll : l.length ≤ 1000000 := by omega
    have Ih := Lib.hid ih
    obtain ⟨p, k, rfl, _, _⟩ := hf.shape
    have G1 := Lib.hid g1
    have G4 := Lib.hid g4
    have G2 := Lib.hid g2
    have G3 := Lib.hid g3
    have HF := Lib.hid hf
    obtain ⟨p0, k0, rfl, _, _⟩ := g1.shape
    have Hd1 := Lib.hid (show l.length + 1 ≤ maxLen by unfold maxLen; omega)
    have Hd2 := Lib.hid (show (l.length + 1) * 24 ≤ 140737488355328 by omega)
    have hR0 : ¬ R = 0 := by omega
    have hR1 : 1 ≤ R := by omega
    have hRz : (R == 0) = false := by simp; omega
    have hR2 : R ≤ 100 := by omega
    have HR := Lib.hid hR
    clear hR g1 g2 g3 g4 hf hll ih hq h5
    go_enter Try.func77, Try.ntmps77
    go_wp2_with (at_builtin; go_must (refine wpList_append_G rfl (.tmp 10) (.tmp 12) 42 rfl 24 (.slice none 0 0) 24 Try.underlying42 info_sl rfl lo hi _ l.length f rfl (G1.out.below (below_alloc w _)) (by simp; omega) (by simp; omega) _ 1 _ rfl (rd_one _ _ _ rfl) (fun j _ => rfl) Hd1.out Hd2.out ?_; intro v2 w2 ho2 hg2 hw2))
    have hb := below_alloc w (.cells #[.slice p front.length k] 24)
    have hs := OwnII.snocD (G1.out.below hb) (fun i hi => (G2.out i hi).below hb) G3.out (HF.out.below hb) G4.out (by decide) hg2 (by have := hg2.size; simp at this; omega) (ho2.congr fun j hj => by by_cases e : j < l.length <;> simp [e])
    obtain ⟨L1, hL1⟩ : ∃ L1, L1 = l ++ [front] := ⟨_, rfl⟩
    rw [← hL1] at hs
    have Hs := Lib.hid hs
    have HL1 := Lib.hid hL1
    have Hg := Lib.hid (grown_after hb hg2)
    have Hw := Lib.hid (fun b hb => (hw2 b hb).imp id fun h => show w.heap.size ≤ b by simp at h; omega)
    obtain ⟨p2, k2, rfl, _, _⟩ := hs.shape
    clear hs hg2 hw2 ho2 hb hL1
    go_wp2_with fail
    go_loopg [3, 9] m (fun g s3 s9 wr => ∃ t : Nat, t ≤ m ∧ g = m - t ∧ s9 = .int .i64 ((t : Int) + 1) ∧ Hid (OwnII 24 3 wr lo wr.heap.size s3 (l ++ front :: (List.range t).flatMap fun (n : Nat) => shs r (n + 1) (front ++ [((n + 1 : Nat) : Int)]))) ∧ Hid (w.grownBy wr (Value.slice p0 l.length k0).ownBlock) ∧ Hid (∀ b, s3.ownBlock = some b → (Value.slice p0 l.length k0).ownBlock = some b ∨ w.heap.size ≤ b))
    case atStart => exact ⟨0, Nat.zero_le _, rfl, by go_num, by rw [show (l ++ front :: (List.range 0).flatMap fun (n : Nat) => shs r (n + 1) (front ++ [((n + 1 : Nat) : Int)])) = L1 by rw [HL1.out]; rfl]; exact Hs, Hg, Hw⟩
    case round =>
      obtain ⟨t, ht, rfl, rfl, ho, hg, hw⟩ := hrel
      obtain ⟨wo, rfl⟩ : ∃ x : World, x = wr := ⟨_, rfl⟩
      have hsw := hg.out.size
      by_cases hlt : t < m
      · have HFo := Lib.hid (HF.out.grownBy hg.out G1.out (by decide))
        obtain ⟨L, hL⟩ : ∃ L, L = l ++ front :: (List.range t).flatMap fun (n : Nat) => shs r (n + 1) (front ++ [((n + 1 : Nat) : Int)]) := ⟨_, rfl⟩
        have hLn : l ++ front :: ((List.range (t + 1)).flatMap fun (n : Nat) => shs r (n + 1) (front ++ [((n + 1 : Nat) : Int)])) = L ++ shs r (t + 1) (front ++ [((t : Int) + 1)]) := by
          rw [flatMap_snoc, hL, List.append_assoc, List.cons_append]
          rfl
        have hLl : L.length + (t + 1 + 1) ^ r ≤ 1000000 := by
          have a := shs_len' r m t front (by omega)
          have b : (t + 1 + 1) ^ r ≤ (m + 1) ^ r := Nat.pow_le_pow_left (by omega) r
          rw [← Hq.out] at a b
          have c : t * q ≤ (m - 1) * q := Nat.mul_le_mul_right q (by omega)
          have d : m * q = (m - 1) * q + q := by rw [← Nat.succ_mul]; congr 1; omega
          have e := Hmq.out
          rw [hL, List.length_append, List.length_cons]
          omega
        rw [← hL] at ho
        have HLn := Lib.hid hLn
        have HLl := Lib.hid hLl
        have Ho := Lib.hid ho.out
        have Hg := Lib.hid hg.out
        have Hw := Lib.hid hw.out
        obtain ⟨p3, k3, rfl, _, _⟩ := ho.out.shape
        have hf99 : front.length ≤ 99 := by omega
        have ht1 : (t : Int) + 1 ≤ (m : Int) := by omega
        have Hc1 := Lib.hid (show front.length + 1 ≤ maxLen by unfold maxLen; omega)
        have Hc2 := Lib.hid (show (front.length + 1) * 8 ≤ 140737488355328 by omega)
        clear hL hLn hLl ho hg hw
        go_wp2_with fail
        refine (l1Ints_any _ front _ HFo.out.ints (by omega)).mono ?_
        rintro e w1 ⟨u, rfl, hou, hbu⟩
        obtain ⟨p4, k4, rfl, _, _⟩ := hou.shape
        have Hou := Lib.hid hou
        have Hbu := Lib.hid hbu
        have hsu := hbu.size
        clear hou hbu
        go_wp2_with (at_builtin; go_must (refine wpList_append_F rfl (.tmp 23) (.tmp 25) 24 rfl 3 (.int .i64 0) 8 Try.underlying24 info_int rfl wo.heap.size w1.heap.size _ front.length (iv front) rfl ((Hou.out.below (below_alloc _ _)).fn) (by simp; omega) (by simp) _ 1 _ rfl (rd_one _ _ _ rfl) (fun j _ => rfl) Hc1.out Hc2.out ?_; intro v' w3 ho3 hg3))
        have ho4 := OwnI.snoc1 ho3
        have hs3 := hg3.size
        simp only [size_alloc] at hs3
        have hb3 : Below wo.heap.size wo w3 := Hbu.out.trans (((below_alloc w1 _).mono hsu).trans (grownBy_below hg3 Hou.out.fn.blocks (Nat.le_refl _) (by simp; omega)))
        obtain ⟨p5, k5, rfl, _, _⟩ := ho4.shape
        obtain ⟨F, j1, j2, j3⟩ := Ho.out
        have j4 : ∀ i, i < L.length → ∀ b, (F i).ownBlock = some b → (Value.slice p5 (front ++ [(t : Int) + 1]).length k5).ownBlock ≠ some b := fun i hi b hb e => by
          have a1 := (Own.block (j2 i hi) hb).2.2
          have a2 := (Own.block ho4 e).1
          omega
        refine (Ih.out _ _ (t + 1) _ _ L _ lo w3.heap.size F w3 (by have := HR.out; omega) (by omega) ((j1.below hb3).mono (Nat.le_refl _) (by omega)) (fun i hi => ((j2 i hi).below hb3).mono (Nat.le_refl _) (by omega)) j3 (ho4.mono (by omega) (Nat.le_refl _)) j4 (by omega) (Nat.le_refl _) (by simp; omega) HLl.out (by omega)).mono ?_
        rintro e w5 ⟨v5, rfl, ho5, hg5, hw5⟩
        obtain ⟨L5, hL5⟩ : ∃ L5, L5 = L ++ shs r (t + 1) (front ++ [(t : Int) + 1]) := ⟨_, rfl⟩
        rw [← hL5] at ho5
        have HL5 := Lib.hid hL5
        have Ho5 := Lib.hid ho5
        have Hg5 := Lib.hid (grown_chain (grown_then Hg.out hb3) hg5 Hw.out)
        have Hw5 := Lib.hid (show ∀ b, v5.ownBlock = some b → (Value.slice p0 l.length k0).ownBlock = some b ∨ w.heap.size ≤ b from fun b hb => by
          rcases hw5 b hb with h | h
          · exact Hw.out b h
          · right; omega)
        obtain ⟨p6, k6, rfl, _, _⟩ := ho5.shape
        clear ho5 hg5 hw5 ho4 ho3 hg3 hb3 hL5
        go_wp2_with fail
        go_roundg (m - (t + 1))
        case measure => omega
        case rel => exact ⟨t + 1, by omega, rfl, by go_num, by rw [HLn.out, ← HL5.out]; exact Ho5, Hg5, Hw5⟩
      · obtain rfl : t = m := by omega
        have ht1 : ¬ (t : Int) + 1 ≤ (t : Int) := by omega
        obtain ⟨L, hL⟩ : ∃ L, L = l ++ front :: (List.range t).flatMap fun (n : Nat) => shs r (n + 1) (front ++ [((n + 1 : Nat) : Int)]) := ⟨_, rfl⟩
        rw [← hL] at ho
        have HL := Lib.hid hL
        have Ho := Lib.hid ho.out
        obtain ⟨p3, k3, rfl, _, _⟩ := ho.out.shape
        clear ho hL
        go_wp2_with fail
        go_ret
        exact ⟨_, rfl, by rw [shs, ← HL.out]; exact Ho.out, hg.out, hw.out⟩

/-- the shapes in a box -/
theorem ShapesIn_any (r m : Nat) (w : World) (hr : r ≤ 6) (hm : m ≤ 6) (hl : (m + 1) ^ r ≤ 1000000) :
    Calls Try.prog 49 #[.int .i64 (r : Int), .int .i64 (m : Int)] w (RetII w (shs r m [])) := by
  go_enter Try.func49, Try.ntmps49
  go_wp2_with fail
  refine (l1In_yes _ _ _ _ (by omega)).mono ?_
  rintro e w1 ⟨rfl, rfl⟩
  go_wp2_with fail
  refine (l1In_yes _ _ _ _ (by omega)).mono ?_
  rintro e w1 ⟨rfl, rfl⟩
  have HL := Lib.hid hl
  clear hl
  go_wp2_with fail
  have hb := below_alloc2 w (.cells #[] 3) (.cells #[] 24)
  refine (l4Shapes_go r _ _ m [] _ [] _ w.heap.size (w.heap.size + 1 + 1) (fun _ => undef) _ rfl rfl ?_ (fun i hi => absurd hi (Nat.not_lt_zero _)) (fun i j _ hj => absurd hj (Nat.not_lt_zero _)) ?_ (fun i hi => absurd hi (Nat.not_lt_zero _)) (by omega) (by simp) (by simp; omega) (by have := HL.out; simp; omega) (by omega)).mono ?_
  · have := (OwnF.made0 (w.alloc (.cells #[] 3)) 24 (fun _ => undef)).mono (lo' := w.heap.size) (hi' := w.heap.size + 1 + 1) (by simp) (by simp)
    rw [size_alloc] at this
    exact this
  · exact ((OwnF.ints (xs := []) (OwnF.made0 w 3 (iv []))).below (below_alloc _ _)).mono (Nat.le_refl _) (by omega)
  · rintro e w2 ⟨v, rfl, ho, hg, hw⟩
    obtain ⟨p, k, rfl, _, _⟩ := ho.shape
    have Ho := Lib.hid ho
    have Hb2 : Below w.heap.size w w2 := hb.trans (grownBy_below hg (lo := w.heap.size) (hi := w.heap.size + 1 + 1) (fun b hb => by simp [Value.ownBlock] at hb; omega) (Nat.le_refl _) (by simp; omega))
    have HB := Lib.hid Hb2
    clear ho hg hw Hb2
    go_wp2_with fail
    go_ret
    exact ⟨_, rfl, Ho.out, HB.out⟩


theorem boxShapes_any (r n : Nat) (w : World) (hr : r ≤ 6) (hrn : r ≤ n) (hm : n - r ≤ 6) (hl : (n - r + 1) ^ r ≤ 1000000) :
    Calls Try.prog 18 #[.int .i64 (r : Int), .int .i64 (n : Int)] w (RetII w (shs r (n - r) [])) := by
  have Hnr := Lib.hid (show (n : Int) - (r : Int) = ((n - r : Nat) : Int) by omega)
  have HL := Lib.hid hl
  have h1 : (n : Int) - (r : Int) ≤ 6 := by omega
  have h2 : (r : Int) ≤ (n : Int) := by omega
  clear hl
  go_enter Try.func18, Try.ntmps18
  go_wp2_with fail
  rw [Hnr.out]
  refine (ShapesIn_any r (n - r) _ hr hm HL.out).mono ?_
  rintro e w1 ⟨u, rfl, ho, hb⟩
  have Ho := Lib.hid ho
  obtain ⟨p, k, rfl, _, _⟩ := ho.shape
  clear ho
  go_wp2_with fail
  go_ret
  exact ⟨_, rfl, Ho.out, hb⟩

end Go.Proofs.Ytoodgbflaaabmaa

namespace Go.Proofs.Ytoodgbflaaabmaa
set_option linter.all false
open Go.RowKit

def ishs : Nat → Nat → List (List Int)
  | 0, _ => [[]]
  | r + 1, m => [] :: (List.range m).flatMap fun (n : Nat) => (ishs r (n + 1)).map fun l => ((n : Int) + 1) :: l
theorem ishs_len : ∀ (r m : Nat), (ishs r m).length ≤ (m + 1) ^ r
  | 0, m => by simp [ishs]
  | r + 1, m => by
    rw [ishs, List.length_cons]
    have a : ∀ k, k ≤ m → ((List.range k).flatMap fun (n : Nat) => (ishs r (n + 1)).map fun l => ((n : Int) + 1) :: l).length ≤ k * (m + 1) ^ r := by
      intro k
      induction k with
      | zero => intro _; simp
      | succ k ih =>
        intro hk
        rw [flatMap_snoc, List.length_append, Nat.succ_mul, List.length_map]
        have a := ih (by omega)
        have b := ishs_len r (k + 1)
        have c : (k + 1 + 1) ^ r ≤ (m + 1) ^ r := Nat.pow_le_pow_left (by omega) r
        omega
    have a := a m (Nat.le_refl m)
    have b : 1 ≤ (m + 1) ^ r := Nat.one_le_pow _ _ (by omega)
    rw [Nat.pow_succ, Nat.mul_add]
    rw [Nat.mul_comm ((m + 1) ^ r) m]
    omega
theorem ishs_len' (r m k : Nat) (hk : k ≤ m) : ((List.range k).flatMap fun (n : Nat) => (ishs r (n + 1)).map fun l => ((n : Int) + 1) :: l).length ≤ k * (m + 1) ^ r := by
  induction k with
  | zero => simp
  | succ k ih =>
    rw [flatMap_snoc, List.length_append, Nat.succ_mul, List.length_map]
    have a := ih (by omega)
    have b := ishs_len r (k + 1)
    have c : (k + 1 + 1) ^ r ≤ (m + 1) ^ r := Nat.pow_le_pow_left (by omega) r
    omega
theorem ishs_short : ∀ (r m : Nat), ∀ l ∈ ishs r m, l.length ≤ r
  | 0, m, l, h => by simp [ishs] at h; simp [h]
  | r + 1, m, l, h => by
    rw [ishs, List.mem_cons] at h
    rcases h with rfl | h
    · simp
    · obtain ⟨n, _, h⟩ := List.mem_flatMap.1 h
      obtain ⟨l', h', rfl⟩ := List.mem_map.1 h
      have := ishs_short r (n + 1) l' h'
      simp; omega
theorem take_snoc_map {α β : Type} (g : α → β) (L : List α) {j : Nat} (h : j < L.length) : (L.take (j + 1)).map g = (L.take j).map g ++ [g L[j]] := by
  rw [List.take_succ, List.getElem?_eq_getElem h, List.map_append]
  rfl

/-- a list with the empty list alone -/
theorem made_nil1 (w : World) : OwnII 24 3 ((w.alloc (.cells #[] 3)).alloc (.cells #[.slice (some ⟨w.heap.size, 0, none⟩) 0 0] 24)) w.heap.size (w.heap.size + 1 + 1) (.slice (some ⟨w.heap.size + 1, 0, none⟩) 1 1) [[]] := by
  refine ⟨fun _ => .slice (some ⟨w.heap.size, 0, none⟩) 0 0, ?_, fun i hi => ?_, fun i j hij hj => ?_⟩
  · have := (OwnF.made1 (w.alloc (.cells #[] 3)) 24 (.slice (some ⟨w.heap.size, 0, none⟩) 0 0)).mono (lo' := w.heap.size) (hi' := w.heap.size + 1 + 1) (by simp) (by simp)
    rw [size_alloc] at this
    exact this
  · obtain rfl : i = 0 := by simpa using hi
    exact ((OwnF.ints (xs := []) (OwnF.made0 w 3 (iv []))).below (below_alloc _ _)).mono (Nat.le_refl _) (by omega)
  · have : j = 0 := by simpa using hj
    omega

set_option maxRecDepth 100000 in
set_option maxHeartbeats 4000000 in
theorem shapesIn_go (r : Nat) : ∀ (R M : Int) (m : Nat) (w : World), R = (r : Int) → M = (m : Int) → m ≤ 100 → r ≤ 50 → (m + 1) ^ r ≤ 1000000 →
    Calls Try.prog 80 #[.int .i64 R, .int .i64 M] w (RetII w (ishs r m)) := by
  induction r with
  | zero =>
    intro R M m w hR hM h1 h2 h3
    subst hR
    clear h3
    have HM := Lib.hid (made_nil1 w)
    have HB := Lib.hid (below_alloc2 w (.cells #[] 3) (.cells #[.slice (some ⟨w.heap.size, 0, none⟩) 0 0] 24))
    go_enter Try.func80, Try.ntmps80
    go_wp2_with fail
    go_loopg [5, 6, 8] 0 (fun g s5 s6 s8 wr => Hid (OwnII 24 3 wr w.heap.size wr.heap.size s5 [[]]) ∧ Hid (Below w.heap.size w wr))
    case atStart => exact ⟨by have := HM.out.mono (hi' := ((w.alloc (.cells #[] 3)).alloc (.cells #[.slice (some ⟨w.heap.size, 0, none⟩) 0 0] 24)).heap.size) (Nat.le_refl _) (by simp); exact Lib.hid this, HB⟩
    case round =>
      obtain ⟨ho, hb⟩ := hrel
      obtain ⟨p5, k5, rfl, _, _⟩ := ho.out.shape
      go_wp2_with fail
      go_ret
      exact ⟨_, rfl, ho.out, hb.out⟩
  | succ r ih =>
    intro R M m w hR hM h1 h2 h3
    subst hM
    obtain ⟨q, hq⟩ : ∃ q, q = (m + 1) ^ r := ⟨_, rfl⟩
    rw [Nat.pow_succ, ← hq, Nat.mul_comm, Nat.succ_mul] at h3
    have hp1 : 1 ≤ q := by rw [hq]; exact Nat.one_le_pow _ _ (by omega)
    have Hq := Lib.hid hq
    have Hmq := Lib.hid h3
    have Ih := Lib.hid ih
    have hR1 : 1 ≤ R := by omega
    have hR2 : R ≤ 100 := by omega
    have HR := Lib.hid hR
    have HM := Lib.hid (made_nil1 w)
    have HB := Lib.hid (below_alloc2 w (.cells #[] 3) (.cells #[.slice (some ⟨w.heap.size, 0, none⟩) 0 0] 24))
    clear hR hq h3 ih
    go_enter Try.func80, Try.ntmps80
    go_wp2_with fail
    go_loopg [5, 6, 8] m (fun g s5 s6 s8 wr => ∃ t : Nat, t ≤ m ∧ g = m - t ∧ s6 = .int .i64 ((t : Int) + 1) ∧ Hid (OwnII 24 3 wr w.heap.size wr.heap.size s5 ([] :: (List.range t).flatMap fun (n : Nat) => (ishs r (n + 1)).map fun l => ((n : Int) + 1) :: l)) ∧ Hid (Below w.heap.size w wr))
    case atStart => exact ⟨0, Nat.zero_le _, rfl, by go_num, by have := HM.out.mono (hi' := ((w.alloc (.cells #[] 3)).alloc (.cells #[.slice (some ⟨w.heap.size, 0, none⟩) 0 0] 24)).heap.size) (Nat.le_refl _) (by simp); exact Lib.hid this, HB⟩
    case round =>
      obtain ⟨t, ht, rfl, rfl, ho, hb⟩ := hrel
      obtain ⟨wo, rfl⟩ : ∃ x : World, x = wr := ⟨_, rfl⟩
      have hsw := hb.out.size
      obtain ⟨L, hL⟩ : ∃ L, L = [] :: (List.range t).flatMap fun (n : Nat) => (ishs r (n + 1)).map fun l => ((n : Int) + 1) :: l := ⟨_, rfl⟩
      rw [← hL] at ho
      by_cases hlt : t < m
      · have hLn : ([] :: (List.range (t + 1)).flatMap fun (n : Nat) => (ishs r (n + 1)).map fun l => ((n : Int) + 1) :: l) = L ++ (ishs r (t + 1)).map fun l => ((t : Int) + 1) :: l := by
          rw [flatMap_snoc, hL, List.cons_append]
        have hp : (t + 1 + 1) ^ r ≤ q := by rw [Hq.out]; exact Nat.pow_le_pow_left (by omega) r
        have hLl : L.length + q ≤ 1000000 := by
          have a := ishs_len' r m t (by omega)
          rw [← Hq.out] at a
          have c : t * q ≤ (m - 1) * q := Nat.mul_le_mul_right q (by omega)
          have d : m * q = (m - 1) * q + q := by rw [← Nat.succ_mul]; congr 1; omega
          have e := Hmq.out
          rw [hL, List.length_cons]
          omega
        have HLn := Lib.hid hLn
        have HLl := Lib.hid hLl
        have Hp := Lib.hid hp
        have Ho := Lib.hid ho.out
        have Hb := Lib.hid hb.out
        obtain ⟨p3, k3, rfl, _, _⟩ := ho.out.shape
        have ht1 : (t : Int) + 1 ≤ (m : Int) := by omega
        clear hL hLn hLl hp ho hb
        go_wp2_with fail
        refine (Ih.out _ _ (t + 1) _ (by have := HR.out; omega) (by omega) (by omega) (by omega) (by have := Hp.out; have := Hmq.out; omega)).mono ?_
        rintro e w1 ⟨u, rfl, hou, hbu⟩
        obtain ⟨N, hN⟩ : ∃ N, N = ishs r (t + 1) := ⟨_, rfl⟩
        have hNl : N.length ≤ q := by rw [hN]; exact Nat.le_trans (ishs_len r (t + 1)) Hp.out
        have hNs : ∀ l ∈ N, l.length ≤ r := by rw [hN]; exact ishs_short r (t + 1)
        rw [← hN] at hou
        have HN := Lib.hid hN
        have HNl := Lib.hid hNl
        have HNs := Lib.hid hNs
        have Hbu := Lib.hid hbu
        have hsu := hbu.size
        obtain ⟨pu, ku, rfl, hku, hku2⟩ := hou.shape
        unfold maxLen at hku2
        obtain ⟨G, j1, j2, j3⟩ := hou
        have J1 := Lib.hid j1
        have J2 := Lib.hid j2
        have HBo := Lib.hid (Hb.out.trans (hbu.mono hsw))
        have Hw1 := Lib.hid (show ∀ b, (Value.slice p3 L.length k3).ownBlock = some b → b < wo.heap.size ∨ w1.heap.size ≤ b from fun b hb => by
          obtain ⟨F, q1, _⟩ := Ho.out
          exact .inl (q1.blocks b hb).2)
        have Ho1 := Lib.hid ((Ho.out.below hbu).mono (Nat.le_refl _) hsu)
        have hs0 : w.heap.size ≤ w1.heap.size := by omega
        clear hN hNl hNs hbu j1 j2 j3 Hb Ho
        go_wp2_with fail
        go_loopg [5, 8, 25] N.length (fun g s5 s8 s25 wr => ∃ j : Nat, j ≤ N.length ∧ g = N.length - j ∧ s25 = .int .i64 j ∧ Hid (OwnII 24 3 wr w.heap.size wr.heap.size s5 (L ++ (N.take j).map fun l => ((t : Int) + 1) :: l)) ∧ Hid (Below w.heap.size w wr ∧ w1.heap.size ≤ wr.heap.size ∧ ∀ b, s5.ownBlock = some b → b < wo.heap.size ∨ w1.heap.size ≤ b) ∧ Hid (OwnF wr wo.heap.size w1.heap.size 24 (.slice pu N.length ku) N.length G) ∧ Hid (∀ i, i < N.length → OwnI 3 wr wo.heap.size w1.heap.size (G i) (N.getD i [])))
        case atStart => exact ⟨0, Nat.zero_le _, rfl, rfl, by rw [List.take_zero, List.map_nil, List.append_nil]; exact Ho1, Lib.hid ⟨HBo.out, Nat.le_refl _, Hw1.out⟩, J1, J2⟩
        case round =>
          obtain ⟨j, hj, rfl, rfl, ho, hb, hg, hgi⟩ := hrel
          obtain ⟨w2, rfl⟩ : ∃ x : World, x = wr := ⟨_, rfl⟩
          have hs2 := hb.out.2.1
          have hs9 := hb.out.1.size
          obtain ⟨K, hK⟩ : ∃ K, K = L ++ (N.take j).map fun l => ((t : Int) + 1) :: l := ⟨_, rfl⟩
          have hKl : K.length = L.length + j := by rw [hK, List.length_append, List.length_map, List.length_take]; omega
          rw [← hK] at ho
          by_cases hjl : j < N.length
          · have hKn : L ++ (N.take (j + 1)).map (fun l => ((t : Int) + 1) :: l) = K ++ [((t : Int) + 1) :: N.getD j []] := by
              rw [take_snoc_map _ _ hjl, hK, List.append_assoc, List.getD_eq_getElem?_getD, List.getElem?_eq_getElem hjl]
              rfl
            obtain ⟨x, hx⟩ : ∃ x, x = N.getD j [] := ⟨_, rfl⟩
            have hxl : x.length ≤ 50 := by
              have := HNs.out x (by rw [hx, List.getD_eq_getElem?_getD, List.getElem?_eq_getElem hjl]; exact List.getElem_mem hjl)
              omega
            have hrow := hgi.out j hjl
            rw [← hx] at hKn hrow
            obtain ⟨pj, kj, ej, _, _⟩ := hrow.shape
            rw [ej] at hrow
            obtain ⟨g0, hg0, hgl, hgh, hgs⟩ := hg.out.at_ (by omega)
            subst hg0
            have c0 := hg.out.cell hjl
            rw [ej] at c0
            obtain ⟨n, hn⟩ : ∃ n, n = x.length := ⟨_, rfl⟩
            have Hrd := Lib.hid (show Rd w2 (.slice pj n kj) n (iv x) by rw [hn]; exact hrow.ints)
            rw [← hn] at hxl c0
            have Hn := Lib.hid hn
            have HKn := Lib.hid hKn
            have Hgi := Lib.hid hgi.out
            have Hg := Lib.hid hg.out
            have Hb := Lib.hid hb.out
            have hju : (j : Int) < (N.length : Int) := by omega
            have hKs : K.length ≤ 1000000 := by have := HLl.out; have := HNl.out; omega
            obtain ⟨F, q1, q2, q3⟩ := ho.out
            have Q1 := Lib.hid q1
            have Q2 := Lib.hid q2
            have Q3 := Lib.hid q3
            obtain ⟨pK, kK, rfl, _, _⟩ := q1.shape
            have Hb1 := Lib.hid (show 1 + n ≤ maxLen by unfold maxLen; omega)
            have Hb2 := Lib.hid (show (1 + n) * 8 ≤ 140737488355328 by omega)
            have Hc1 := Lib.hid (show K.length + 1 ≤ maxLen by unfold maxLen; omega)
            have Hc2 := Lib.hid (show (K.length + 1) * 24 ≤ 140737488355328 by omega)
            clear hK hKl hKn hrow hx hn q1 q2 q3 ho hb hg hgi ej hKs
            go_wp2_with (at_builtin; first
              | (refine wpList_append_G rfl (.tmp 29) (.tmp 34) 42 rfl 24 (.slice none 0 0) 24 Try.underlying42 info_sl rfl w.heap.size w2.heap.size _ K.length F rfl ((Q1.out.below Hbx.out).below (below_alloc w3 _)) (by simp; omega) (by simp; omega) _ 1 _ rfl (rd_one _ _ _ rfl) (fun j _ => rfl) Hc1.out Hc2.out ?_; intro v5 w5 ho5 hg5 hw5)
              | go_must (refine wpList_append_F rfl (.tmp 31) (.tmp 32) 24 rfl 3 (.int .i64 0) 8 Try.underlying24 info_int rfl w2.heap.size (w2.heap.size + 1) _ 1 (fun _ => .int .i64 ((t : Int) + 1)) rfl (OwnF.made1 w2 3 _) (by rw [size_alloc]; omega) (by rw [size_alloc]; omega) _ n (iv x) rfl (Hrd.out.below (below_alloc w2 _)) (fun j _ => rfl) Hb1.out Hb2.out ?_; intro v3 w3 ho3 hg3; have hr3 := OwnI.cons1 Hn.out ho3; have hbx : Below w2.heap.size w2 w3 := (below_alloc w2 _).trans (grownBy_below hg3 (OwnF.made1 w2 3 (.int .i64 ((t : Int) + 1))).blocks (Nat.le_refl _) (by rw [size_alloc]; omega)); obtain ⟨p4, k4, rfl, _, _⟩ := hr3.shape; have Hr3 := Lib.hid hr3; have Hbx := Lib.hid hbx; have hs3 := hbx.size; clear hr3 hbx ho3 hg3))
            have hb5 := below_alloc w3 (.cells #[.slice p4 (((t : Int) + 1) :: x).length k4] 24)
            have hs5 := OwnII.snoc ((Q1.out.below Hbx.out).below hb5) (fun i hi => ((Q2.out i hi).below Hbx.out).below hb5) Q3.out (Hr3.out.below hb5) (by omega) (by omega) (by decide) hg5 (by have := hg5.size; simp at this; omega) (ho5.congr fun j hj => by by_cases e : j < K.length <;> simp [e])
            have hbw : w2.grownBy w5 (Value.slice pK K.length kK).ownBlock := grown_after (Hbx.out.trans (hb5.mono hs3)) hg5
            have hgr := hbw.size
            have hwhere : ∀ b, v5.ownBlock = some b → b < wo.heap.size ∨ w1.heap.size ≤ b := fun b hb' => by
              rcases hw5 b hb' with h | h
              · exact Hb.out.2.2 b h
              · right; simp at h; omega
            have hG5 := Hg.out.grown hbw fun k hk e => by
              have : g0 = k := by simpa [Value.ownBlock] using hk
              have := Hb.out.2.2 k e
              omega
            have hI5 : ∀ i, i < N.length → OwnI 3 w5 wo.heap.size w1.heap.size (G i) (N.getD i []) := fun i hi => (Hgi.out i hi).grownBy hbw Q1.out (by decide)
            have hB5 : Below w.heap.size w w5 := Hb.out.1.trans (grownBy_below hbw Q1.out.blocks (Nat.le_refl _) hs9)
            have HS5 := Lib.hid hs5
            have HW5 := Lib.hid hwhere
            have HG5 := Lib.hid hG5
            have HI5 := Lib.hid hI5
            have HB5 := Lib.hid hB5
            have hz5 : w1.heap.size ≤ w5.heap.size := by omega
            obtain ⟨p6, k6, rfl, _, _⟩ := hs5.shape
            clear hs5 hwhere hG5 hI5 hB5 hbw hg5 hw5 ho5 hb5
            go_wp2_with fail
            go_roundg (N.length - (j + 1))
            case measure => omega
            case rel => exact ⟨j + 1, by omega, rfl, by go_num, by rw [HKn.out]; exact HS5, Lib.hid ⟨HB5.out, hz5, HW5.out⟩, HG5, HI5⟩
          · obtain rfl : j = N.length := by omega
            have hju : ¬ (N.length : Int) < (N.length : Int) := by omega
            have HK := Lib.hid hK
            have Ho := Lib.hid ho.out
            obtain ⟨p6, k6, rfl, _, _⟩ := ho.out.shape
            clear ho hK hKl
            go_wp2_with fail
            go_roundg (m - (t + 1))
            case measure => omega
            case rel => exact ⟨t + 1, by omega, rfl, by go_num, by rw [HLn.out, ← HN.out, show (L ++ N.map fun l => ((t : Int) + 1) :: l) = K by rw [HK.out, List.take_length]]; exact Ho, Lib.hid hb.out.1⟩
      · have ht1 : ¬ (t : Int) + 1 ≤ (m : Int) := by omega
        obtain rfl : t = m := by omega
        have HL := Lib.hid hL
        have Ho := Lib.hid ho.out
        obtain ⟨p3, k3, rfl, _, _⟩ := ho.out.shape
        clear ho hL
        go_wp2_with fail
        go_ret
        exact ⟨_, rfl, by rw [ishs, ← HL.out]; exact Ho.out, hb.out⟩

/-! ### sums -/
def sumTo2 (xs : List Int) : Nat → Int
  | 0 => 0
  | k + 1 => sumTo2 xs k + xs.getD k 0
def sumI (xs : List Int) : Int := sumTo2 xs xs.length
def sumOk (xs : List Int) : Prop := xs.length ≤ 1000 ∧ ∀ k, k < xs.length → 0 ≤ xs.getD k 0 ∧ xs.getD k 0 ≤ 1000000
theorem sumTo2_rng {xs : List Int} (h : sumOk xs) : ∀ k, k ≤ xs.length → 0 ≤ sumTo2 xs k ∧ sumTo2 xs k ≤ k * 1000000
  | 0, _ => by simp [sumTo2]
  | k + 1, hk => by
    have a := sumTo2_rng h k (by omega)
    have b := h.2 k (by omega)
    rw [sumTo2]
    push_cast
    omega

set_option maxRecDepth 100000 in
set_option maxHeartbeats 2000000 in
theorem sumInts_any (v : Value) (xs : List Int) (w : World) (h : Ints w v xs) (ho : sumOk xs) :
    Calls Try.prog 81 #[v] w fun e w' => e = .returned (.int .i64 (sumI xs)) ∧ Qt w w' := by
  obtain ⟨p, cap, rfl, ⟨hx1, hx2⟩, hxc⟩ := h
  unfold maxLen at hx2
  have HO := Lib.hid ho
  have hl := ho.1
  clear ho
  go_enter Try.func81, Try.ntmps81
  go_wp2_with fail
  go_loopg [3, 5, 8] xs.length (fun g s3 s5 s8 wr => ∃ k : Nat, k ≤ xs.length ∧ g = xs.length - k ∧ s8 = .int .i64 k ∧ s3 = .int .i64 (sumTo2 xs k) ∧ Qt w wr)
  case atStart => exact ⟨0, Nat.zero_le _, rfl, rfl, rfl, Qt.refl _⟩
  case round =>
    obtain ⟨k, hk, rfl, rfl, rfl, hq⟩ := hrel
    obtain ⟨z, hz⟩ : ∃ z, z = sumTo2 xs k := ⟨_, rfl⟩
    have hr := sumTo2_rng HO.out k hk
    rw [← hz] at hr ⊢
    have Hz := Lib.hid hz
    by_cases hlt : k < xs.length
    · obtain ⟨b, off, rfl, hc⟩ := hxc (by omega)
      obtain ⟨x, hx⟩ : ∃ x, x = xs.getD k 0 := ⟨_, rfl⟩
      have c1 := hq.cell (hc k hlt)
      unfold iv at c1
      rw [← hx] at c1
      have hx2 := HO.out.2 k hlt
      rw [← hx] at hx2
      have Hn := Lib.hid (show sumTo2 xs (k + 1) = z + x by rw [sumTo2, hz, hx])
      have hk1 : (k : Int) < (xs.length : Int) := by omega
      have hk2 : (k : Int) * 1000000 ≤ 1000000000 := by omega
      clear hx hc hxc hz
      go_wp2_with fail
      go_roundg (xs.length - (k + 1))
      case measure => omega
      case rel => exact ⟨k + 1, by omega, rfl, by go_num, by rw [Hn.out], hq⟩
    · obtain rfl : k = xs.length := by omega
      have hk1 : ¬ (xs.length : Int) < (xs.length : Int) := by omega
      clear hz
      go_wp2_with fail
      go_ret
      exact ⟨by rw [Hz.out]; rfl, hq⟩

set_option maxRecDepth 100000 in
set_option maxHeartbeats 2000000 in
theorem lawSum_any (v : Value) (xs : List Int) (w : World) (h : Ints w v xs) (ho : sumOk xs) :
    Calls Try.prog 21 #[v] w fun e w' => e = .returned (.int .i64 (sumI xs)) ∧ Qt w w' := by
  obtain ⟨p, cap, rfl, ⟨hx1, hx2⟩, hxc⟩ := h
  unfold maxLen at hx2
  have HO := Lib.hid ho
  have hl := ho.1
  clear ho
  go_enter Try.func21, Try.ntmps21
  go_wp2_with fail
  go_loopg [3, 4] xs.length (fun g s3 s8 wr => ∃ k : Nat, k ≤ xs.length ∧ g = xs.length - k ∧ s8 = .int .i64 k ∧ s3 = .int .i64 (sumTo2 xs k) ∧ Qt w wr)
  case atStart => exact ⟨0, Nat.zero_le _, rfl, rfl, rfl, Qt.refl _⟩
  case round =>
    obtain ⟨k, hk, rfl, rfl, rfl, hq⟩ := hrel
    obtain ⟨z, hz⟩ : ∃ z, z = sumTo2 xs k := ⟨_, rfl⟩
    have hr := sumTo2_rng HO.out k hk
    rw [← hz] at hr ⊢
    have Hz := Lib.hid hz
    by_cases hlt : k < xs.length
    · obtain ⟨b, off, rfl, hc⟩ := hxc (by omega)
      obtain ⟨x, hx⟩ : ∃ x, x = xs.getD k 0 := ⟨_, rfl⟩
      have c1 := hq.cell (hc k hlt)
      unfold iv at c1
      rw [← hx] at c1
      have hx2 := HO.out.2 k hlt
      rw [← hx] at hx2
      have Hn := Lib.hid (show sumTo2 xs (k + 1) = z + x by rw [sumTo2, hz, hx])
      have hk1 : (k : Int) < (xs.length : Int) := by omega
      have hk2 : (k : Int) * 1000000 ≤ 1000000000 := by omega
      clear hx hc hxc hz
      go_wp2_with fail
      go_roundg (xs.length - (k + 1))
      case measure => omega
      case rel => exact ⟨k + 1, by omega, rfl, by go_num, by rw [Hn.out], hq⟩
    · obtain rfl : k = xs.length := by omega
      have hk1 : ¬ (xs.length : Int) < (xs.length : Int) := by omega
      clear hz
      go_wp2_with fail
      go_ret
      exact ⟨by rw [Hz.out]; rfl, hq⟩

end Go.Proofs.Ytoodgbflaaabmaa

namespace Go.Proofs.Ytoodgbflaaabmaa
set_option linter.all false
open Go.RowKit

/-- how many of the first t have the sum j -/
def gcA (N : List (List Int)) : Nat → Nat → Nat
  | 0, _ => 0
  | t + 1, j => gcA N t j + if (j : Int) = sumI (N.getD t []) then 1 else 0
theorem gcA_le (N : List (List Int)) : ∀ t j, gcA N t j ≤ t
  | 0, _ => Nat.le_refl _
  | t + 1, j => by
    have := gcA_le N t j
    rw [gcA]
    split <;> omega
def gcL (N : List (List Int)) (d : Nat) : List Int := (List.range d).map fun j => (gcA N N.length j : Int)
theorem gcL_length (N : List (List Int)) (d : Nat) : (gcL N d).length = d := by simp [gcL]
theorem gcL_getD {N : List (List Int)} {d j : Nat} (h : j < d) : (gcL N d).getD j 0 = (gcA N N.length j : Int) := by simp [gcL, List.getD_eq_getElem?_getD, h]
/-- the sums lie below d -/
def GcOk (N : List (List Int)) (d : Nat) : Prop := ∀ t, t < N.length → sumOk (N.getD t []) ∧ 0 ≤ sumI (N.getD t []) ∧ sumI (N.getD t []) < (d : Int)

theorem ishs_all {r m : Nat} : ∀ t, t < (ishs r m).length → ((ishs r m).getD t []).length ≤ r := fun t ht => by
  rw [List.getD_eq_getElem?_getD, List.getElem?_eq_getElem ht]
  exact ishs_short r m _ (List.getElem_mem ht)

set_option maxRecDepth 100000 in
set_option maxHeartbeats 4000000 in
theorem GaussCounts_any (k m n d : Nat) (w : World) (hn : n = k + m) (h1 : 1 ≤ n) (h7 : n ≤ 7) (hd : d = k * m + 1) (hl : (m + 1) ^ k ≤ 1000000) (hok : GcOk (ishs k m) d) :
    Calls Try.prog 56 #[.int .i64 (k : Int), .int .i64 (n : Int)] w (RetI w (gcL (ishs k m) d)) := by
  obtain ⟨K, hK, HK1, HK2⟩ := mul_hid k m (Nat.le_trans (Nat.mul_le_mul (show k ≤ 7 by omega) (show m ≤ 7 by omega)) (by omega))
  have hKb : K ≤ 49 := by rw [hK]; exact Nat.mul_le_mul (show k ≤ 7 by omega) (show m ≤ 7 by omega)
  have hdK : d = K + 1 := by rw [hd, hK]
  have Hnk := Lib.hid (show (n : Int) - (k : Int) = (m : Int) by omega)
  have hkn : k ≤ n := by omega
  have hm7 : m ≤ 7 := by omega
  have HL := Lib.hid hl
  have HO := Lib.hid hok
  have hmk := run_make_row' (P := Try.prog) 24 3 (.int .i64 0) 8 Try.underlying24 info_int rfl .i64 .i64 d (by omega) (by omega)
  have Hmk := Lib.hid hmk
  have HdI := Lib.hid (show (K : Int) + 1 = (d : Int) by omega)
  have hdb : d ≤ 50 := by omega
  clear hmk hd hK hl hok hn hdK
  go_enter Try.func56, Try.ntmps56
  go_wp2_with fail
  refine (isBox_yes _ _ _ hkn h1 h7).mono ?_
  rintro e w1 ⟨rfl, rfl⟩
  have h3 := HK1.out
  have h4 := HK2.out
  have h5 := Hnk.out
  have h6 := HdI.out
  have h8 := Hmk.out
  go_wp2_with fail
  clear h3 h4 h6 h8 h5
  have hrow := World.rowIs_made w (.int .i64 0) d 3
  have hbm := below_alloc w (.cells (madeCells #[.int .i64 0] d) 3)
  have hsm : (w.alloc (.cells (madeCells #[.int .i64 0] d) 3)).heap.size = w.heap.size + 1 := by simp
  generalize w.alloc (.cells (madeCells #[.int .i64 0] d) 3) = w2 at *
  have Hrow := Lib.hid hrow
  have Hb2 := Lib.hid hbm
  clear hrow hbm
  refine (shapesIn_go k _ _ m _ rfl rfl (by omega) (by omega) HL.out).mono ?_
  rintro e w3 ⟨u, rfl, hou, hb3⟩
  obtain ⟨N, hN⟩ : ∃ N, N = ishs k m := ⟨_, rfl⟩
  have hNl : N.length ≤ 1000000 := by rw [hN]; exact Nat.le_trans (ishs_len k m) HL.out
  rw [← hN] at hou
  have HO2 := Lib.hid (show GcOk N d by rw [hN]; exact HO.out)
  have HN := Lib.hid hN
  have hs3 := hb3.size
  obtain ⟨pu, ku, rfl, hku, hku2⟩ := hou.shape
  unfold maxLen at hku2
  obtain ⟨G, j1, j2, j3⟩ := hou
  have J1 := Lib.hid j1
  have J2 := Lib.hid j2
  have Hrow3 := Lib.hid (Hrow.out.of_block (hb3.block _ (by omega)))
  have Hb3 := Lib.hid (Hb2.out.trans (hb3.mono (by omega)))
  clear hN j1 j2 j3 hb3 Hrow HO
  go_wp2_with fail
  go_loopg [7, 25] N.length (fun g s7 s25 wr => ∃ t : Nat, t ≤ N.length ∧ g = N.length - t ∧ s25 = .int .i64 t ∧ Hid (Frm w.heap.size (w.heap.size + 1) w3 wr) ∧ Hid (wr.rowIs w.heap.size 3 d (fun j => .int .i64 (gcA N t j : Nat))))
  case atStart => exact ⟨0, Nat.zero_le _, rfl, rfl, Frm.refl _ _ _, Hrow3.out.congr fun j _ => by simp [gcA]⟩
  case round =>
    obtain ⟨t, ht, rfl, rfl, hf, hrow⟩ := hrel
    by_cases hlt : t < N.length
    · have hg := J1.out.frm hf.out (.inr (by omega))
      have hI := (J2.out t hlt).frm hf.out (.inr (by omega))
      obtain ⟨g0, rfl, _, _, _⟩ := hg.at_ (by omega)
      have c0 := hg.cell hlt
      obtain ⟨x, hx⟩ : ∃ x, x = N.getD t [] := ⟨_, rfl⟩
      rw [← hx] at hI
      obtain ⟨pj, kj, ej, hjk, hjk2⟩ := hI.shape
      rw [ej] at c0 hI
      obtain ⟨ok1, ok2, ok3⟩ := HO2.out t hlt
      rw [← hx] at ok1 ok2 ok3
      obtain ⟨y, hy⟩ : ∃ y : Nat, sumI x = (y : Int) := ⟨(sumI x).toNat, by omega⟩
      have hyd : y < d := by omega
      have Hy := Lib.hid hy
      have Hsum := Lib.hid (show ∀ w : World, Ints w (.slice pj x.length kj) x → Calls Try.prog 81 #[.slice pj x.length kj] w fun e w' => e = .returned (.int .i64 (y : Int)) ∧ Qt w w' from fun w h => hy ▸ sumInts_any _ x w h ok1)
      have HI := Lib.hid hI.ints
      have Hx := Lib.hid hx
      have htu : (t : Int) < (N.length : Int) := by omega
      obtain ⟨lx, hlx⟩ : ∃ lx, lx = x.length := ⟨_, rfl⟩
      rw [← hlx] at c0 Hsum HI
      clear hx hy hI hg ej ok1 ok2 ok3 hjk hlx
      go_wp2_with fail
      refine (Hsum.out _ HI.out).mono ?_
      rintro e w4 ⟨rfl, hq⟩
      have hrow4 := hrow.out.of_block (by rw [hq.heap])
      have hA := gcA_le N t y
      obtain ⟨z, hz⟩ : ∃ z, z = gcA N t y := ⟨_, rfl⟩
      have d2 : w4.cell? ⟨w.heap.size, y, none⟩ = some (.int .i64 (z : Int)) := by rw [hrow4.cell hyd, hz]
      have d3 := hrow4.frozen y
      rw [← hz] at hA
      have hyi : (y : Int) < (d : Int) := by omega
      have Hz := Lib.hid hz
      have Hrow4 := Lib.hid hrow4
      have Hf4 := Lib.hid (hf.out.trans (hq.frm _ _))
      clear hrow4 hz hq hrow hf
      go_wp2_with fail
      go_roundg (N.length - (t + 1))
      case measure => omega
      case rel =>
        refine ⟨t + 1, by omega, rfl, by go_num, Hf4.out.setCell (Nat.le_refl _) (Nat.lt_succ_self _) _, (Hrow4.out.set y _).congr fun j _ => ?_⟩
        rw [gcA, ← Hx.out, Hy.out]
        by_cases e : j = y
        · subst e; rw [if_pos rfl, if_pos rfl, ← Hz.out]; go_num
        · rw [if_neg e, if_neg (by omega), Nat.add_zero]
    · obtain rfl : t = N.length := by omega
      have htu : ¬ (N.length : Int) < (N.length : Int) := by omega
      have ho := rowIs_ints (xs := gcL N d) (by rw [gcL_length]; exact hrow.out.congr fun j hj => by rw [iv, gcL_getD hj]) (by rw [gcL_length]; unfold maxLen; omega)
      rw [gcL_length] at ho
      have Ho := Lib.hid ho
      clear ho hrow
      go_wp2_with fail
      go_ret
      exact ⟨_, rfl, by rw [← HN.out]; exact Ho.out, Hb3.out.trans (hf.out.below (Nat.le_refl _) (by omega))⟩

/-- the numbers of spaces, added up -/
def csA (N : List (List Int)) (p : Nat) : Nat → Nat
  | 0 => 0
  | j + 1 => csA N p j + gcA N N.length j * p ^ j
theorem csA_le {N : List (List Int)} {p : Nat} (hN : N.length ≤ 1000) (hp : 1 ≤ p) : ∀ j B, p ^ j ≤ B → csA N p j ≤ j * (1000 * B)
  | 0, B, _ => by simp [csA]
  | j + 1, B, h => by
    have h1 : p ^ j ≤ B := Nat.le_trans (Nat.pow_le_pow_right hp (Nat.le_succ j)) h
    have a := csA_le hN hp j B h1
    have b : gcA N N.length j * p ^ j ≤ 1000 * B := Nat.mul_le_mul (Nat.le_trans (gcA_le N N.length j) hN) h1
    rw [csA, Nat.succ_mul]
    omega

set_option maxRecDepth 100000 in
set_option maxHeartbeats 4000000 in
theorem CountSpaces_any (p k m n d : Nat) (w : World) (hp : primeOk (p : Int) = true) (hn : n = k + m) (h1 : 1 ≤ n) (h7 : n ≤ 7) (hd : d = k * m + 1) (hl : (m + 1) ^ k ≤ 1000) (hb : p ^ d ≤ 100000) (hok : GcOk (ishs k m) d) :
    Calls Try.prog 24 #[.int .i64 (p : Int), .int .i64 (k : Int), .int .i64 (n : Int)] w fun e w' => e = .returned (.int .i64 (csA (ishs k m) p d : Nat)) ∧ Below w.heap.size w w' := by
  have hkn : k ≤ n := by omega
  obtain ⟨N, hN⟩ : ∃ N, N = ishs k m := ⟨_, rfl⟩
  have hNl : N.length ≤ 1000 := by rw [hN]; exact Nat.le_trans (ishs_len k m) hl
  have hd50 : d ≤ 50 := by rw [hd]; have := Nat.mul_le_mul (show k ≤ 7 by omega) (show m ≤ 7 by omega); omega
  obtain ⟨hp2, hp7⟩ := primeOk_range hp
  have hG := fun w => GaussCounts_any k m n d w hn h1 h7 hd (by omega) hok
  have HG := Lib.hid hG
  have HP := Lib.hid hp
  have HNN := Lib.hid hN
  have HB := Lib.hid hb
  have HC := Lib.hid (fun j (hj : j ≤ d) => csA_le hNl (by omega) j 100000 (Nat.le_trans (Nat.pow_le_pow_right (by omega) hj) hb))
  rw [← hN]
  clear hG hok hl hb hd hN hn hp
  go_enter Try.func24, Try.ntmps24
  go_wp2_with fail
  refine (isPrime_b _ true HP.out _).mono ?_
  rintro e w1 ⟨rfl, rfl⟩
  go_wp2_with fail
  refine (isBox_yes _ _ _ hkn h1 h7).mono ?_
  rintro e w1 ⟨rfl, rfl⟩
  go_wp2_with fail
  refine (HG.out _).mono ?_
  rintro e w2 ⟨u, rfl, hou, hb2⟩
  rw [← HNN.out] at hou
  have Hou := Lib.hid hou.ints
  have Hb2 := Lib.hid hb2
  obtain ⟨pu, ku, rfl, hku, hku2⟩ := hou.shape
  rw [gcL_length] at hku Hou ⊢
  unfold maxLen at hku2
  clear hou hb2
  go_wp2_with fail
  go_loopg [7, 8, 10, 24] d (fun g s7 s8 s10 s24 wr => ∃ j : Nat, j ≤ d ∧ g = d - j ∧ s24 = .int .i64 j ∧ s7 = .int .i64 (csA N p j : Nat) ∧ s8 = .int .i64 (p ^ j : Nat) ∧ w2 = wr)
  case atStart => exact ⟨0, Nat.zero_le _, rfl, rfl, rfl, by simp, rfl⟩
  case round =>
    obtain ⟨j, hj, rfl, rfl, rfl, rfl, rfl⟩ := hrel
    have hcs := HC.out j hj
    have hjm : j * (1000 * 100000) ≤ 50 * (1000 * 100000) := Nat.mul_le_mul_right _ (by omega)
    obtain ⟨S, hS⟩ : ∃ S, S = csA N p j := ⟨_, rfl⟩
    obtain ⟨q, hq⟩ : ∃ q, q = p ^ j := ⟨_, rfl⟩
    have hqb : q ≤ 100000 := by rw [hq]; exact Nat.le_trans (Nat.pow_le_pow_right (by omega) hj) HB.out
    rw [← hS] at hcs
    rw [← hS, ← hq]
    by_cases hlt : j < d
    · have hI := Hou.out
      obtain ⟨_, _, e, _, hc0⟩ := hI
      injection e with e1 e2 e3
      subst e1 e3
      rw [gcL_length] at hc0
      obtain ⟨b, off, hpb, hc⟩ := hc0 (by omega)
      subst hpb
      have c0 := hc j hlt
      unfold iv at c0
      rw [gcL_getD hlt] at c0
      obtain ⟨c, hcc⟩ : ∃ c, c = gcA N N.length j := ⟨_, rfl⟩
      have hcb : c ≤ 1000 := by rw [hcc]; exact Nat.le_trans (gcA_le _ _ _) hNl
      rw [← hcc] at c0
      obtain ⟨Y, hY, HY1, HY2⟩ := mul_hid c q (by have := Nat.mul_le_mul hcb hqb; omega)
      obtain ⟨Z, hZ, HZ1, HZ2⟩ := mul_hid q p (by have := Nat.mul_le_mul hqb (show p ≤ 7 by omega); omega)
      have hYb : Y ≤ 100000000 := by have := Nat.mul_le_mul hcb hqb; rw [hY]; omega
      have Hn1 := Lib.hid (show csA N p (j + 1) = S + Y by rw [csA, ← hS, ← hcc, ← hq, hY])
      have Hn2 := Lib.hid (show p ^ (j + 1) = Z by rw [Nat.pow_succ, ← hq, hZ])
      have hju : (j : Int) < (d : Int) := by omega
      obtain ⟨T, hT⟩ : ∃ T, T = S + Y := ⟨_, rfl⟩
      have HT1 := Lib.hid (show wrap64 ((S : Int) + (Y : Int)) = (T : Int) from (w64 (by omega) (by omega)).trans (by omega))
      have HT2 := Lib.hid (show IntKind.i64.wrap ((S : Int) + (Y : Int)) = (T : Int) from (k64 (by omega) (by omega)).trans (by omega))
      rw [← hT] at Hn1
      have hj1 : ((j + 1 : Nat) : Int) = (j : Int) + 1 := by omega
      have Hj1 := Lib.hid (show IntKind.i64.wrap ((j : Int) + 1) = (j : Int) + 1 from k64 (by omega) (by omega))
      clear hS hq hcc hY hZ hc hc0 e2 hT hcs hjm hqb hcb hYb hj1
      have h3 := HY1.out
      have h4 := HY2.out
      have h5 := HZ1.out
      have h6 := HZ2.out
      have h7 := HT1.out
      have h8 := HT2.out
      go_wp2_with fail
      clear h3 h4 h5 h6 h7 h8
      go_roundg (d - (j + 1))
      case measure => omega
      case rel => exact ⟨j + 1, by omega, rfl, by go_num, by rw [Hn1.out], by rw [Hn2.out], rfl⟩
    · obtain rfl : j = d := by omega
      have hju : ¬ (j : Int) < (j : Int) := by omega
      have HS := Lib.hid hS
      clear hS hq
      go_wp2_with fail
      go_ret
      exact ⟨by rw [HS.out]; rfl, Hb2.out⟩

end Go.Proofs.Ytoodgbflaaabmaa
