/-
  The draws: a cursor, a prime, a matrix.
  The reference's l1Factorial and l1Decode.
  The draws: a permutation, the identity.
  More of spans and ranks: rows that are independent, spans within spans, halves of rows (plain law; no program in sight).
  What two spaces have in common: the plain law.
  What MeetSpaces computes is what is in both spaces, and the dimensions add up (plain law; no program in sight).
-/
import Derived.Test.YtoodgbflaaabmaaJ14
import Derived.Test.YtoodgbflaaabmaaJ8
import Derived.Deep.RegionLaw
import Derived.Test.YtoodgbflaaabmaaJ5
import Derived.Test.YtoodgbflaaabmaaJ1
import Derived.Test.YtoodgbflaaabmaaJ4
import Derived.Test.YtoodgbflaaabmaaJ3
import Derived.Test.YtoodgbflaaabmaaJ13
namespace Go.Proofs.Ytoodgbflaaabmaa
set_option linter.all false
open Go.RowKit

theorem cur_new {w : World} {p : Option Addr} {n cap : Nat} (x : Int) (h : Byts w (.slice p n cap) n) : Cur (w.alloc (.cells #[.slice p n cap, .int .i64 0, .int .i64 x] 78)) w.heap.size := by
  have h' := h
  obtain ⟨f, p', cap', e, _, hx⟩ := h'
  injection e with e1 _ e3
  subst e1 e3
  refine ⟨p, n, cap, 0, x, heap_alloc_top _ _, Nat.zero_le _, h.below (below_alloc _ _), fun h0 a ha => ?_⟩
  obtain ⟨b, off, e, hc⟩ := hx h0
  rw [e] at ha
  injection ha with ha
  subst ha
  have := World.block_lt_of_cell? _ _ (hc 0 h0)
  dsimp only at this ⊢
  omega

set_option maxRecDepth 100000 in
set_option maxHeartbeats 2000000 in
theorem l1New_any (v : Value) (n : Nat) (w : World) (h : Byts w v n) :
    Calls Try.prog 31 #[v] w fun e w' => e = .returned (.pointer (some ⟨w.heap.size, 0, none⟩)) ∧ Cur w' w.heap.size ∧ Below w.heap.size w w' := by
  have Hh := Lib.hid h
  obtain ⟨f, p, cap, rfl, ⟨hx1, hx2⟩, hxc⟩ := h
  unfold maxLen at hx2
  have Hxc := Lib.hid hxc
  clear hxc
  go_enter Try.func31, Try.ntmps31
  go_wp2_with fail
  go_loopg [3, 4] n (fun g s3 s4 wr => ∃ (k : Nat) (x : Int), k ≤ n ∧ g = n - k ∧ s3 = .int .i64 x ∧ s4 = .int .i64 k ∧ wr = w)
  case atStart => exact ⟨0, _, Nat.zero_le _, rfl, rfl, rfl, rfl⟩
  case round =>
    obtain ⟨k, x, hk, rfl, rfl, rfl, rfl⟩ := hrel
    by_cases hlt : k < n
    · by_cases h4 : k < 4000
      · obtain ⟨b, off, rfl, hc⟩ := Hxc.out (by omega)
        have c1 := hc k hlt
        have i1 : (k : Int) < (n : Int) := by omega
        have i2 : (k : Int) < 4000 := by omega
        clear hc
        go_wp2_with fail
        go_roundg (n - (k + 1))
        case measure => omega
        case rel => exact ⟨k + 1, _, by omega, rfl, rfl, by go_num, rfl⟩
      · have i1 : (k : Int) < (n : Int) := by omega
        have i2 : ¬ (k : Int) < 4000 := by omega
        go_wp2_with fail
        go_ret
        exact ⟨rfl, cur_new x Hh.out, below_alloc _ _⟩
    · have i1 : ¬ (k : Int) < (n : Int) := by omega
      go_wp2_with fail
      go_ret
      exact ⟨rfl, cur_new x Hh.out, below_alloc _ _⟩

set_option maxRecDepth 100000 in
set_option maxHeartbeats 2000000 in
theorem dPrime_any (k : Nat) (w : World) (h : Cur w k) :
    Calls Try.prog 57 #[.pointer (some ⟨k, 0, none⟩)] w fun e w' => ∃ P : Int, e = .returned (.int .i64 P) ∧ primeOk P = true ∧ Cur w' k ∧ Frm k (k + 1) w w' := by
  have Hc := Lib.hid h
  clear h
  go_enter Try.func57, Try.ntmps57
  go_wp2_with fail
  have hc1 := Hc.out.below (below_alloc w (.cells #[.int .i64 2, .int .i64 3, .int .i64 2, .int .i64 5, .int .i64 7] 3))
  have hk := Hc.out.lt
  refine (l1PickInt_any k _ [2, 3, 2, 5, 7] _ hc1 ⟨_, 5, rfl, ⟨Nat.le_refl _, by unfold maxLen; omega⟩, fun _ => ⟨w.heap.size, 0, rfl, fun j hj => ?_⟩⟩ (fun p n c e a ha => ?_) (by decide) (by decide)).mono ?_
  · have h5 := heap_alloc_top w (.cells #[.int .i64 2, .int .i64 3, .int .i64 2, .int .i64 5, .int .i64 7] 3)
    rw [Nat.zero_add]
    simp only [List.length_cons, List.length_nil] at hj
    obtain rfl | rfl | rfl | rfl | rfl : j = 0 ∨ j = 1 ∨ j = 2 ∨ j = 3 ∨ j = 4 := by omega
    all_goals exact cell_of_blk h5 rfl
  · injection e with e1 _ _
    rw [← e1] at ha
    injection ha with ha
    subst ha
    dsimp only
    omega
  · rintro e w1 ⟨x, hx, rfl, hc2, hf⟩
    have Hx := Lib.hid hx
    have Hc2 := Lib.hid hc2
    have Hf := Lib.hid hf
    clear hx hc2 hf hc1
    go_wp2_with fail
    go_ret
    refine ⟨x, rfl, ?_, Hc2.out, (Frm.of_below (below_alloc w _) _ _).trans Hf.out⟩
    have := Hx.out
    simp only [List.mem_cons, List.not_mem_nil, or_false] at this
    obtain rfl | rfl | rfl | rfl | rfl := this <;> decide

set_option maxRecDepth 100000 in
set_option maxHeartbeats 4000000 in
/-- a matrix of any numbers -/
theorem dMatrix_any (k : Nat) (P : Int) (r c : Nat) (w : World) (h : Cur w k) (hp : primeOk P = true) (hr : r ≤ 7) (hc : c ≤ 7) :
    Calls Try.prog 84 #[.pointer (some ⟨k, 0, none⟩), .int .i64 P, .int .i64 (r : Int), .int .i64 (c : Int)] w fun e w' =>
      ∃ (u : Value) (D : List Int), e = .returned (.agg #[.int .i64 P, .int .i64 (r : Int), .int .i64 (c : Int), u]) ∧ OwnI 3 w' w.heap.size w'.heap.size u D ∧ D.length = r * c ∧ (∀ x ∈ D, 0 ≤ x ∧ x < P) ∧ Cur w' k ∧ Frm k (k + 1) w w' := by
  obtain ⟨hP2, hP7⟩ := primeOk_range hp
  obtain ⟨p, rfl⟩ := Int.eq_ofNat_of_zero_le (show 0 ≤ P by omega)
  have Hc := Lib.hid h
  have hk := h.lt
  obtain ⟨N, hN, hw1, hw2⟩ := mul_named r c (by have := Nat.mul_le_mul hr hc; omega)
  have hNb : N ≤ 49 := by have := Nat.mul_le_mul hr hc; omega
  rw [← hN]
  have HN := Lib.hid hN
  have Hw1 := Lib.hid hw1
  have Hw2 := Lib.hid hw2
  clear h hN hp hw1 hw2
  have hw1 := Hw1.out
  go_enter Try.func84, Try.ntmps84
  go_wp2_with fail
  go_loopg [10] N (fun g s10 wr => ∃ (i : Nat) (D : List Int) (v : Value), i ≤ N ∧ g = N - i ∧ s10 = .int .i64 i ∧ D.length = i ∧ Hid (∀ x ∈ D, 0 ≤ x ∧ x < (p : Int)) ∧
    Hid (wr.heap[w.heap.size]? = some (.cells #[.int .i64 0, .int .i64 0, .int .i64 0, .slice none 0 0] 34)) ∧
    Hid (wr.heap[w.heap.size + 1 + 1]? = some (.cells #[.int .i64 p, .int .i64 r, .int .i64 c, v] 34)) ∧ Hid (OwnI 3 wr (w.heap.size + 1) wr.heap.size v D) ∧ Hid (Cur wr k) ∧ Hid (Frm k (k + 1) w wr))
  case atStart =>
    obtain ⟨z0, z1, z2⟩ := boxes_abz w (.cells #[.int .i64 0, .int .i64 0, .int .i64 0, .slice none 0 0] 34) (.cells #[] 3) (.cells #[.int .i64 p, .int .i64 r, .int .i64 c, .slice (some ⟨w.heap.size + 1, 0, none⟩) 0 0] 34)
    have hm0 := OwnF.made0 (w.alloc (.cells #[.int .i64 0, .int .i64 0, .int .i64 0, .slice none 0 0] 34)) 3 (iv [])
    rw [size_alloc] at hm0
    have hb3 := below_alloc3 w (.cells #[.int .i64 0, .int .i64 0, .int .i64 0, .slice none 0 0] 34) (.cells #[] 3) (.cells #[.int .i64 p, .int .i64 r, .int .i64 c, .slice (some ⟨w.heap.size + 1, 0, none⟩) 0 0] 34)
    refine ⟨0, [], _, Nat.zero_le _, rfl, rfl, rfl, fun x hx => absurd hx (List.not_mem_nil), z0, z2, ?_, Hc.out.below hb3, Frm.of_below hb3 _ _⟩
    refine OwnF.ints ?_
    refine OwnF.mono (OwnF.below hm0 (below_alloc _ _)) (Nat.le_refl _) (by simp)
  case round =>
    obtain ⟨i, D, v, hi, rfl, rfl, hDl, hD, hZ, hq, ho, hcu, hf⟩ := hrel
    by_cases hlt : i < N
    · have hlt2 : (i : Int) < (N : Int) := by omega
      obtain ⟨pv, kv, rfl, _, _⟩ := ho.out.shape
      have hofn := ho.out.fn
      rw [hDl] at hq hofn
      have Hq := Lib.hid hq.out
      have Ho := Lib.hid hofn
      have HD := Lib.hid hD.out
      have HDl := Lib.hid hDl
      have Hcu := Lib.hid hcu.out
      have Hf := Lib.hid hf.out
      have HZ := Lib.hid hZ.out
      have hkr := Hcu.out.lt
      obtain ⟨m0, m1, m2, m3, mf', mz⟩ := blk4 Hq.out
      have hne := own_box hofn Hq.out (by decide)
      have Hb1 := Lib.hid (show i + 1 ≤ maxLen by unfold maxLen; omega)
      have Hb2 := Lib.hid (show (i + 1) * 8 ≤ 140737488355328 by omega)
      clear hq ho hD hcu hf hZ hofn hDl
      go_wp2_with fail
      go_region_law (first
        | (refine step_append_F rfl (.tmp 24) (.tmp 28) 24 rfl 3 (.int .i64 0) 8 Try.underlying24 info_int rfl (w.heap.size + 1) wr.heap.size _ i (iv D) rfl (Ho1.out.below (below_alloc w1 _)) (by rw [size_alloc]; omega) (by rw [size_alloc]; omega) _ 1 _ rfl (rd_one _ _ _ rfl) (fun j _ => rfl) Hb1.out Hb2.out ?_; intro v2 w2 ho2 hg2; obtain ⟨p2, k2, rfl, _, _⟩ := ho2.shape; have hq2 := (hg2.block (w.heap.size + 1 + 1) (by rw [size_alloc]; omega) (fun e => hne e.symm)).trans ((heap_alloc_low w1 _ (by omega)).trans Hq1.out); have hZ2 := (hg2.block w.heap.size (by rw [size_alloc]; omega) (fun e => by have := Ho.out.blocks _ e.symm; omega)).trans ((heap_alloc_low w1 _ (by omega)).trans HZ1.out); obtain ⟨d0, d1, d2, d3, df, dz⟩ := blk4 hq2; have Hq2 := Lib.hid hq2; have HZ2 := Lib.hid hZ2; have Ho2 := Lib.hid ho2; have Hg2 := Lib.hid hg2; clear hq2 hZ2 ho2 hg2)
        | (refine (if_pos ?_).mpr ?_; rfl; go_simp; refine (l1Below_any k p _ (Hcu.out.below (Below.of_drewN _ _)) (by omega) (by omega)).mono ?_; rintro e w1 ⟨x, rfl, hx, hc1, hf1⟩; have hs1 : wr.heap.size ≤ w1.heap.size := hf1.size; have Hq1 := Lib.hid ((hf1.block (w.heap.size + 1 + 1) (by show _ < wr.heap.size; omega) (Or.inr (by omega))).trans Hq.out); have HZ1 := Lib.hid ((hf1.block w.heap.size (by show _ < wr.heap.size; omega) (Or.inr (by omega))).trans HZ.out); obtain ⟨g0, g1, g2, g3, gf, gz⟩ := blk4 Hq1.out; have Ho1 := Lib.hid ((Ho.out.below (Below.of_drewN _ _)).frm hf1 (Or.inr (by omega))); have Hc1 := Lib.hid hc1; have Hf1 := Lib.hid hf1; clear hc1 hf1; dsimp only))
      all_goals go_wp2_with fail
      all_goals go_roundg (N - (i + 1))
      all_goals try omega
      all_goals
        have hbx : Below (w.heap.size + 1) w1 (w2.setCell ⟨w.heap.size + 1 + 1, 3, none⟩ (.slice p2 (i + 1) k2)) := (((below_alloc w1 _).mono (by omega)).trans (grownBy_below Hg2.out Ho1.out.blocks (Nat.le_refl _) (by rw [size_alloc]; omega))).setCell (by show w.heap.size + 1 ≤ w.heap.size + 1 + 1; omega) _
        refine ⟨i + 1, D ++ [(x : Int)], _, by omega, rfl, by go_num, by rw [List.length_append, HDl.out]; rfl, fun y hy => ?_, ?_, heap_setCell_at Hq2.out 3 _, ?_, Hc1.out.keepB hbx (by omega), ?_⟩
        · rcases List.mem_append.1 hy with h | h
          · exact HD.out y h
          · rw [List.mem_singleton.1 h]; omega
        · exact (Below.heap_setCell _ _ _ _ (show w.heap.size ≠ w.heap.size + 1 + 1 by omega)).trans HZ2.out
        · have hoi : OwnI 3 w2 (w.heap.size + 1) w2.heap.size (.slice p2 (i + 1) k2) (D ++ [(x : Int)]) := OwnI.snoc1 (by rw [HDl.out]; exact Ho2.out)
          exact (hoi.setOther (own_box Ho2.out Hq2.out (by decide)) _).mono (Nat.le_refl _) (by rw [size_setCell]; exact Nat.le_refl _)
        · exact (((Hf.out.drewN _).trans Hf1.out)).thenB hbx (by omega)
    · obtain rfl : i = N := by omega
      have hlt2 : ¬ (i : Int) < (i : Int) := by omega
      obtain ⟨pv, kv, rfl, _, _⟩ := ho.out.shape
      rw [hDl] at hq ho
      have Hq := Lib.hid hq.out
      have Ho := Lib.hid ho.out
      have HD := Lib.hid hD.out
      have HDl := Lib.hid hDl
      have Hcu := Lib.hid hcu.out
      have Hf := Lib.hid hf.out
      have HZ := Lib.hid hZ.out
      obtain ⟨m0, m1, m2, m3, mf', mz⟩ := blk4 Hq.out
      obtain ⟨n0, n1, n2, n3, nf', nz⟩ := blk4 HZ.out
      clear hq ho hD hcu hf hZ hDl
      go_wp2_with fail
      obtain ⟨f0, f1, f2, f3, ff, fz⟩ := blk4 (set4_all HZ.out (.int .i64 p) (.int .i64 r) (.int .i64 c) (.slice pv i kv))
      refine bodyPost_ret (v := .agg #[.int .i64 p, .int .i64 r, .int .i64 c, .slice pv i kv]) (by simp [results, Try.results84, go_sem, f0, f1, f2, f3, fz]) rfl ⟨_, rfl, D, ?_, by rw [HDl.out, HN.out], HD.out, ?_, ?_⟩
      · exact (own_set4 Ho.out (.inl (by omega)) _ _ _ _).mono (by omega) (by simp only [size_setCell]; omega)
      · exact Hcu.out.keepB (below_set4 (Below.refl w.heap.size wr) (Nat.le_refl _) _ _ _ _) hk
      · exact Hf.out.thenB (below_set4 (Below.refl w.heap.size wr) (Nat.le_refl _) _ _ _ _) (Nat.le_refl _)

end Go.Proofs.Ytoodgbflaaabmaa

namespace Go.Proofs.Ytoodgbflaaabmaa
set_option linter.all false
open Go.RowKit

def fact : Nat → Nat
  | 0 => 1
  | n + 1 => (n + 1) * fact n
theorem fact_pos (n : Nat) : 1 ≤ fact n := by
  induction n with
  | zero => exact Nat.le_refl _
  | succ n ih => exact Nat.le_trans ih (Nat.le_mul_of_pos_left _ (Nat.succ_pos n))
theorem fact_le {a b : Nat} (h : a ≤ b) : fact a ≤ fact b := by
  induction h with
  | refl => exact Nat.le_refl _
  | step _ ih => exact Nat.le_trans ih (Nat.le_mul_of_pos_left _ (Nat.succ_pos _))

/-- the left-th number that is not in out is put behind it -/
def decGo (out : List Int) : Nat → Nat → Nat → List Int
  | 0, _, _ => out
  | f + 1, v, left => if (v : Int) ∈ out then decGo out f (v + 1) left else if left = 0 then out ++ [(v : Int)] else decGo out f (v + 1) (left - 1)
def decL (n : Nat) (c : List Nat) : List Int := c.foldl (fun out left => decGo out n 0 left) []
theorem decL_snoc (n : Nat) (c : List Nat) (x : Nat) : decL n (c ++ [x]) = decGo (decL n c) n 0 x := by simp [decL]

theorem decGo_len (out : List Int) (f v left : Nat) : (decGo out f v left).length ≤ out.length + 1 := by
  induction f generalizing v left with
  | zero => simp [decGo]
  | succ f ih =>
    unfold decGo
    split
    · exact ih _ _
    · split
      · simp
      · exact ih _ _
theorem decL_len (n : Nat) (c : List Nat) (k : Nat) : (decL n (c.take k)).length ≤ k := by
  induction k with
  | zero => simp [decL]
  | succ k ih =>
    by_cases h : k < c.length
    · have e : c.take (k + 1) = c.take k ++ [c[k]] := by rw [List.take_add_one, List.getElem?_eq_getElem h]; rfl
      rw [e, decL_snoc]
      exact Nat.le_trans (decGo_len _ _ _ _) (by omega)
    · rw [List.take_of_length_le (by omega)]
      rw [List.take_of_length_le (by omega)] at ih
      omega

set_option maxRecDepth 100000 in
set_option maxHeartbeats 2000000 in
theorem specDecode_any (v : Value) (c : List Nat) (w : World) (h : Ints w v (c.map Int.ofNat)) (hn : c.length ≤ 100) (hs : ∀ x ∈ c, x ≤ 1000000) :
    Calls Try.prog 66 #[v] w (RetI w (decL c.length c)) := by
  obtain ⟨p, cap, rfl, ⟨hx1, hx⟩, hxc⟩ := h
  rw [List.length_map] at *
  unfold maxLen at hx
  have Hxc := Lib.hid hxc
  have Hs := Lib.hid hs
  clear hxc hs
  go_enter Try.func66, Try.ntmps66
  go_wp2
  go_loopg [3, 4] c.length (fun g s3 i wr => ∃ k : Nat, k ≤ c.length ∧ g = c.length - k ∧ i = .int .i64 k ∧ Below w.heap.size w wr ∧ OwnI 3 wr w.heap.size wr.heap.size s3 (decL c.length (c.take k)))
  case atStart => exact ⟨0, Nat.zero_le _, rfl, rfl, below_alloc _ _, (OwnF.ints (xs := []) ((OwnF.made0 w _ _))).mono (Nat.le_refl _) (by simp)⟩
  case round =>
    obtain ⟨k, hk, rfl, rfl, hb, ho⟩ := hrel
    by_cases hlt : k < c.length
    · obtain ⟨b, off, rfl, hc⟩ := Hxc.out (by omega)
      have c1 := cell_below hb (hc k hlt)
      have e1 : iv (c.map Int.ofNat) k = .int .i64 (c.getD k 0 : Nat) := by simp [iv, List.getD_eq_getElem?_getD, hlt]
      rw [e1] at c1
      have hck : c.getD k 0 ≤ 1000000 := Hs.out _ (by simp [List.getD_eq_getElem?_getD, hlt])
      have e2 : decL c.length (c.take (k + 1)) = decGo (decL c.length (c.take k)) c.length 0 (c.getD k 0) := by
        rw [List.take_add_one, List.getElem?_eq_getElem hlt]
        simp only [Option.toList]
        rw [decL_snoc]
        simp [List.getD_eq_getElem?_getD, hlt]
      have hln := decL_len c.length c k
      generalize hX : c.getD k 0 = X at c1 hck e2
      generalize hO : decL c.length (c.take k) = out at ho e2 hln
      have E2 := Lib.hid e2
      have Ho := Lib.hid ho
      obtain ⟨p3, k3, rfl, _, _⟩ := ho.shape
      clear hc e1 e2 hX hO ho
      obtain ⟨wo, rfl⟩ : ∃ x : World, x = wr := ⟨_, rfl⟩
      go_wp2
      go_loopg [3, 5, 6] c.length (fun g s3 s5 s6 wr => ∃ left v : Nat, v ≤ c.length ∧ left ≤ 1000000 ∧ g = c.length - v ∧ s3 = .slice p3 out.length k3 ∧ s5 = .int .i64 left ∧ s6 = .int .i64 v ∧ Qt wo wr ∧ Hid (decGo out (c.length - v) v left = decGo out c.length 0 X))
      case atStart => exact ⟨X, 0, Nat.zero_le _, hck, rfl, rfl, rfl, rfl, Qt.refl _, rfl⟩
      case round =>
        obtain ⟨left, v, hv, hleft, rfl, rfl, rfl, rfl, hq, hg⟩ := hrel
        by_cases hvlt : v < c.length
        · by_cases hmem : (v : Int) ∈ out
          · have hc := l1Has_any _ out v wr (Ho.out.ints.qt hq)
            rw [decide_eq_true hmem] at hc
            have Hc := Lib.hid hc
            have hg2 : decGo out (c.length - (v + 1)) (v + 1) left = decGo out c.length 0 X := by
              rw [← hg.out, show c.length - v = (c.length - (v + 1)) + 1 by omega]
              simp [decGo, hmem]
            have Hg2 := Lib.hid hg2
            clear hc hg hg2 hmem
            go_wp2_with fail
            refine Hc.out.mono ?_
            rintro e w1 ⟨rfl, hq1⟩
            go_wp2_with fail
            go_roundg (c.length - (v + 1))
            case measure => omega
            case rel => exact ⟨left, v + 1, by omega, hleft, rfl, rfl, rfl, by go_num, hq.trans hq1, Hg2.out⟩
          · have hc := l1Has_any _ out v wr (Ho.out.ints.qt hq)
            rw [decide_eq_false hmem] at hc
            have Hc := Lib.hid hc
            by_cases hl0 : left = 0
            · subst hl0
              have hg2 : out ++ [(v : Int)] = decGo out c.length 0 X := by
                rw [← hg.out, show c.length - v = (c.length - (v + 1)) + 1 by omega]
                simp [decGo, hmem]
              have Hg2 := Lib.hid hg2
              clear hc hg hg2 hmem
              go_wp2_with fail
              refine Hc.out.mono ?_
              rintro e w1 ⟨rfl, hq1⟩
              have Hq1 := Lib.hid (hq.trans hq1)
              have Ho1 := Lib.hid (Ho.out.below (Hq1.out.below _))
              have Hb1 := Lib.hid (show out.length + 1 ≤ maxLen by unfold maxLen; omega)
              have Hb2 := Lib.hid (show (out.length + 1) * 8 ≤ 140737488355328 by omega)
              have Hsz : Hid (w1.heap.size = wo.heap.size) := by unfold Hid; rw [Hq1.out.size]
              have hsw := hb.size
              go_wp2_with (at_builtin; go_must (refine wpList_append_F rfl (.tmp 29) (.tmp 31) 24 rfl 3 (.int .i64 0) 8 Try.underlying24 info_int rfl w.heap.size wo.heap.size _ out.length (iv out) rfl ((Ho1.out.below (below_alloc _ _)).fn) (by have := Hsz.out; simp; omega) (by have := Hsz.out; simp; omega) _ _ _ rfl (rd_one _ _ _ rfl) (fun j _ => rfl) Hb1.out Hb2.out ?_; intro v' w' ho' hg'))
              have hsw' := hg'.size
              simp only [size_alloc] at hsw'
              have hsz := Hsz.out
              have hblow : Below w.heap.size wo w' := (Hq1.out.below _).trans (((below_alloc w1 _).mono (by omega)).trans (grownBy_below hg' Ho1.out.fn.blocks (Nat.le_refl _) (by simp; omega)))
              go_roundg (c.length - (k + 1))
              case measure => omega
              case rel =>
                refine ⟨k + 1, by omega, rfl, by go_num, hb.trans hblow, ?_⟩
                rw [E2.out, ← Hg2.out]
                refine OwnF.ints ?_
                rw [List.length_append]
                exact ho'.congr fun j hj => by
                  by_cases h : j < out.length
                  · simp [h, iv, List.getD_eq_getElem?_getD, List.getElem?_append_left h]
                  · have : j = out.length := by omega
                    subst this
                    simp [iv, List.getD_eq_getElem?_getD]
            · have hg2 : decGo out (c.length - (v + 1)) (v + 1) (left - 1) = decGo out c.length 0 X := by
                rw [← hg.out, show c.length - v = (c.length - (v + 1)) + 1 by omega]
                simp [decGo, hmem, hl0]
              have Hg2 := Lib.hid hg2
              clear hc hg hg2 hmem
              go_wp2_with fail
              refine Hc.out.mono ?_
              rintro e w1 ⟨rfl, hq1⟩
              go_wp2_with fail
              go_roundg (c.length - (v + 1))
              case measure => omega
              case rel => exact ⟨left - 1, v + 1, by omega, by omega, rfl, rfl, by go_num, by go_num, hq.trans hq1, Hg2.out⟩
        · have hv2 : v = c.length := by omega
          subst hv2
          have hg2 : out = decGo out c.length 0 X := by
            rw [← hg.out, Nat.sub_self]; rfl
          have Hg2 := Lib.hid hg2
          clear hg hg2
          go_wp2_with fail
          go_roundg (c.length - (k + 1))
          case measure => omega
          case rel =>
            refine ⟨k + 1, by omega, rfl, by go_num, hb.trans (hq.below _), ?_⟩
            rw [E2.out, ← Hg2.out, hq.size]
            exact Ho.out.below (hq.below _)
    · go_wp2
      go_ret
      obtain rfl : k = c.length := by omega
      rw [List.take_length] at ho
      exact ⟨_, rfl, ho, hb⟩

end Go.Proofs.Ytoodgbflaaabmaa

namespace Go.Proofs.Ytoodgbflaaabmaa
set_option linter.all false
open Go.RowKit

/-- all codes of m places -/
def codes : Nat → List (List Nat)
  | 0 => [[]]
  | m + 1 => (List.range (m + 1)).flatMap fun x => (codes m).map (x :: ·)
theorem mem_codes : ∀ (m : Nat) (c : List Nat), c.length = m → (∀ j, j < m → c.getD j 0 < m - j) → c ∈ codes m
  | 0, c, hl, _ => by
    obtain rfl := List.eq_nil_of_length_eq_zero hl
    simp [codes]
  | m + 1, [], hl, _ => by simp at hl
  | m + 1, x :: c, hl, h => by
    have h0 := h 0 (by omega)
    have ih := mem_codes m c (by simpa using hl) fun j hj => by
      have := h (j + 1) (by omega)
      simp at this ⊢
      omega
    unfold codes
    refine List.mem_flatMap.2 ⟨x, by simpa using h0, List.mem_map.2 ⟨c, ih, rfl⟩⟩
theorem decL_ok {n : Nat} (h1 : 1 ≤ n) (h5 : n ≤ 5) (c : List Nat) (hl : c.length = n) (h : ∀ j, j < n → c.getD j 0 < n - j) : permOk (decL n c) = true ∧ (decL n c).length = n := by
  have hc := mem_codes n c hl h
  have key : ∀ c ∈ codes n, permOk (decL n c) = true ∧ (decL n c).length = n := by
    have : n = 1 ∨ n = 2 ∨ n = 3 ∨ n = 4 ∨ n = 5 := by omega
    rcases this with rfl | rfl | rfl | rfl | rfl <;> decide +kernel
  exact key c hc

set_option maxRecDepth 100000 in
set_option maxHeartbeats 2000000 in
/-- any permutation of n -/
theorem dPerm_any (k n : Nat) (w : World) (h : Cur w k) (h1 : 1 ≤ n) (h5 : n ≤ 5) :
    Calls Try.prog 33 #[.pointer (some ⟨k, 0, none⟩), .int .i64 (n : Int)] w fun e w' =>
      ∃ (u : Value) (xs : List Int), e = .returned u ∧ OwnI 3 w' w.heap.size w'.heap.size u xs ∧ permOk xs = true ∧ xs.length = n ∧ Cur w' k ∧ Frm k (k + 1) w w' := by
  have Hc := Lib.hid h
  have hk := h.lt
  clear h
  go_enter Try.func33, Try.ntmps33
  go_wp2_with fail
  go_loopg [5, 6] n (fun g s5 s6 wr => ∃ (i : Nat) (cs : List Nat), i ≤ n ∧ g = n - i ∧ s6 = .int .i64 i ∧ cs.length = i ∧ Hid (∀ j, j < i → cs.getD j 0 < n - j) ∧ Hid (OwnI 3 wr w.heap.size wr.heap.size s5 (cs.map Int.ofNat)) ∧ Hid (Cur wr k) ∧ Hid (Frm k (k + 1) w wr))
  case atStart =>
    refine ⟨0, [], Nat.zero_le _, rfl, rfl, rfl, fun j hj => absurd hj (Nat.not_lt_zero _), ?_, Hc.out.below (below_alloc w _), Frm.of_below (below_alloc w _) _ _⟩
    exact OwnF.ints ((OwnF.made0 w 3 (iv [])).mono (Nat.le_refl _) (by simp))
  case round =>
    obtain ⟨i, cs, hi, rfl, rfl, hcl, hcd, ho, hcu, hf⟩ := hrel
    have hsr := hf.out.size
    by_cases hlt : i < n
    · have hlt2 : (i : Int) < (n : Int) := by omega
      have hsub : (n : Int) - (i : Int) = ((n - i : Nat) : Int) := by omega
      have Hsub := Lib.hid hsub
      obtain ⟨p5, k5, rfl, _, _⟩ := ho.out.shape
      have hofn := ho.out.fn
      have hml : (cs.map Int.ofNat).length = i := by rw [List.length_map, hcl]
      rw [hml] at hofn ⊢
      have Ho := Lib.hid hofn
      have Hml := Lib.hid hml
      have Hcl := Lib.hid hcl
      have Hcd := Lib.hid hcd.out
      have Hcu := Lib.hid hcu.out
      have Hf := Lib.hid hf.out
      have Hb1 := Lib.hid (show i + 1 ≤ maxLen by unfold maxLen; omega)
      have Hb2 := Lib.hid (show (i + 1) * 8 ≤ 140737488355328 by omega)
      clear hsub ho hofn hml hcl hcd hcu hf
      go_wp2_with fail
      rw [Hsub.out]
      refine (l1Below_any k (n - i) _ Hcu.out (by omega) (by omega)).mono ?_
      rintro e w1 ⟨x, rfl, hx, hc1, hf1⟩
      have hs1 := hf1.size
      have Ho1 := Lib.hid (Ho.out.frm hf1 (Or.inr (by omega)))
      have Hc1 := Lib.hid hc1
      have Hf1 := Lib.hid (Hf.out.trans hf1)
      clear hc1 hf1
      go_wp2_with (at_builtin; go_must (refine wpList_append_F rfl (.tmp 13) (.tmp 19) 24 rfl 3 (.int .i64 0) 8 Try.underlying24 info_int rfl w.heap.size wr.heap.size _ i (iv (cs.map Int.ofNat)) rfl (Ho1.out.below (below_alloc w1 _)) (by rw [size_alloc]; omega) (by rw [size_alloc]; omega) _ 1 _ rfl (rd_one _ _ _ rfl) (fun j _ => rfl) Hb1.out Hb2.out ?_; intro v2 w2 ho2 hg2))
      go_roundg (n - (i + 1))
      case measure => omega
      case rel =>
        have hbx : Below w.heap.size w1 w2 := ((below_alloc w1 _).mono (by omega)).trans (grownBy_below hg2 Ho1.out.blocks (Nat.le_refl _) (by rw [size_alloc]; omega))
        refine ⟨i + 1, cs ++ [x], by omega, rfl, by go_num, by rw [List.length_append, Hcl.out]; rfl, fun j hj => ?_, ?_, Hc1.out.keepB hbx hk, Hf1.out.thenB hbx (Nat.le_refl _)⟩
        · by_cases e : j < i
          · have := Hcd.out j e
            rwa [List.getD_eq_getElem?_getD, List.getElem?_append_left (by rw [Hcl.out]; exact e), ← List.getD_eq_getElem?_getD]
          · obtain rfl : j = i := by omega
            rw [List.getD_eq_getElem?_getD, List.getElem?_append_right (by rw [Hcl.out]; exact Nat.le_refl _), Hcl.out]
            simpa using hx
        · rw [List.map_append]
          exact OwnI.snoc1 (by rw [Hml.out]; exact ho2)
    · obtain rfl : i = n := by omega
      have hlt2 : ¬ (i : Int) < (i : Int) := by omega
      obtain ⟨p5, k5, rfl, _, _⟩ := ho.out.shape
      have hoi := ho.out.ints
      have hml : (cs.map Int.ofNat).length = i := by rw [List.length_map, hcl]
      rw [hml] at hoi ⊢
      have Ho := Lib.hid hoi
      have Hcl := Lib.hid hcl
      have Hcd := Lib.hid hcd.out
      have Hcu := Lib.hid hcu.out
      have Hf := Lib.hid hf.out
      clear ho hcl hcd hcu hf hoi hml
      go_wp2_with fail
      refine (specDecode_any _ cs _ Ho.out (by rw [Hcl.out]; omega) (fun x hx => ?_)).mono ?_
      · obtain ⟨j, hj, rfl⟩ := List.mem_iff_getElem.1 hx
        have := Hcd.out j (by rw [← Hcl.out]; exact hj)
        rw [List.getD_eq_getElem?_getD, List.getElem?_eq_getElem hj] at this
        simp at this
        omega
      · rintro e w1 ⟨u, rfl, ho1, hb1⟩
        obtain ⟨g1, g2⟩ := decL_ok h1 h5 cs Hcl.out Hcd.out
        rw [Hcl.out] at ho1
        have G1 := Lib.hid g1
        have G2 := Lib.hid g2
        have Ho1 := Lib.hid ho1
        have Hb1 := Lib.hid hb1
        clear g1 g2 ho1 hb1
        go_wp2_with fail
        go_ret
        exact ⟨u, _, rfl, Ho1.out.mono hsr (Nat.le_refl _), G1.out, G2.out, Hcu.out.below Hb1.out, Hf.out.thenB Hb1.out hsr⟩

/-- the identity of n -/
def idL (n : Nat) : List Int := (List.range n).map fun (i : Nat) => (i : Int)
theorem idL_length (n : Nat) : (idL n).length = n := by simp [idL]
theorem idL_getD {n i : Nat} (h : i < n) : (idL n).getD i 0 = i := by simp [idL, List.getD_eq_getElem?_getD, h]
theorem idL_succ (n : Nat) : idL (n + 1) = idL n ++ [(n : Int)] := by simp [idL, List.range_succ]
theorem idL_ok {n : Nat} (h1 : 1 ≤ n) (h7 : n ≤ 7) : permOk (idL n) = true := by
  have : n = 1 ∨ n = 2 ∨ n = 3 ∨ n = 4 ∨ n = 5 ∨ n = 6 ∨ n = 7 := by omega
  rcases this with rfl | rfl | rfl | rfl | rfl | rfl | rfl <;> decide

set_option maxRecDepth 100000 in
set_option maxHeartbeats 2000000 in
theorem specIdentity_any (n : Nat) (w : World) (h1 : 1 ≤ n) (h7 : n ≤ 7) :
    Calls Try.prog 74 #[.int .i64 (n : Int)] w (RetI w (idL n)) := by
  have hin : Hid ((1 : Int) ≤ n ∧ (n : Int) ≤ 7) := ⟨by omega, by omega⟩
  go_enter Try.func74, Try.ntmps74
  go_wp2_with fail
  refine (l1In_yes _ _ _ _ hin.out).mono ?_
  rintro e w' ⟨rfl, rfl⟩
  go_wp2_with fail
  go_loopg [3, 4] n (fun g s3 s4 wr => ∃ i : Nat, i ≤ n ∧ g = n - i ∧ s4 = .int .i64 i ∧ Hid (Below w.heap.size w wr) ∧ Hid (OwnI 3 wr w.heap.size wr.heap.size s3 (idL i)))
  case atStart =>
    refine ⟨0, Nat.zero_le _, rfl, rfl, below_alloc w _, ?_⟩
    exact OwnF.ints ((OwnF.made0 w 3 (iv [])).mono (Nat.le_refl _) (by simp))
  case round =>
    obtain ⟨i, hi, rfl, rfl, hb, ho⟩ := hrel
    have hsr := hb.out.size
    by_cases hlt : i < n
    · have hlt2 : (i : Int) < (n : Int) := by omega
      obtain ⟨p5, k5, rfl, _, _⟩ := ho.out.shape
      have hofn := ho.out.fn
      rw [idL_length] at hofn ⊢
      have Ho := Lib.hid hofn
      have Hb := Lib.hid hb.out
      have Hb1 := Lib.hid (show i + 1 ≤ maxLen by unfold maxLen; omega)
      have Hb2 := Lib.hid (show (i + 1) * 8 ≤ 140737488355328 by omega)
      clear ho hofn hb
      go_wp2_with (at_builtin; go_must (refine wpList_append_F rfl (.tmp 14) (.tmp 16) 24 rfl 3 (.int .i64 0) 8 Try.underlying24 info_int rfl w.heap.size wr.heap.size _ i (iv (idL i)) rfl (Ho.out.below (below_alloc wr _)) (by rw [size_alloc]; omega) (by rw [size_alloc]; omega) _ 1 _ rfl (rd_one _ _ _ rfl) (fun j _ => rfl) Hb1.out Hb2.out ?_; intro v2 w2 ho2 hg2))
      go_roundg (n - (i + 1))
      case measure => omega
      case rel =>
        have hbx : Below w.heap.size wr w2 := ((below_alloc wr _).mono (by omega)).trans (grownBy_below hg2 Ho.out.blocks (Nat.le_refl _) (by rw [size_alloc]; omega))
        refine ⟨i + 1, by omega, rfl, by go_num, Hb.out.trans hbx, ?_⟩
        rw [idL_succ]
        exact OwnI.snoc1 (by rw [idL_length]; exact ho2)
    · obtain rfl : i = n := by omega
      have hlt2 : ¬ (i : Int) < (i : Int) := by omega
      have Ho := Lib.hid ho.out
      have Hb := Lib.hid hb.out
      clear ho hb
      go_wp2_with fail
      go_ret
      exact ⟨_, rfl, Ho.out, Hb.out⟩

end Go.Proofs.Ytoodgbflaaabmaa

namespace Go.Proofs.Ytoodgbflaaabmaa
set_option linter.all false

theorem Sp.narrow {p : Int} {C C' n : Nat} {M : Nat → Nat → Int} {v : Nat → Int} (h : Sp p C n M v) (hC : C' ≤ C) : Sp p C' n M v := by
  induction h with
  | zero => exact .zero
  | add c i hi _ ih => exact .add c i hi ih
  | eqv _ e ih => exact ih.eqv fun j hj => e j (by omega)
theorem Sp.mono {p : Int} {C n n' : Nat} {M : Nat → Nat → Int} {v : Nat → Int} (h : Sp p C n M v) (hn : n ≤ n') : Sp p C n' M v :=
  h.trans fun i hi => .row (by omega)
theorem Sp.congr {p : Int} {C n : Nat} {M M' : Nat → Nat → Int} {v : Nat → Int} (h : Sp p C n M v) (e : ∀ i, i < n → Eqv p C (M i) (M' i)) : Sp p C n M' v :=
  h.trans fun i hi => (Sp.row hi).eqv (e i hi).symm
theorem Sp.sub {p : Int} {C n : Nat} {M : Nat → Nat → Int} {u v : Nat → Int} (h : Sp p C n M u) (h2 : Sp p C n M v) : Sp p C n M (fun j => u j - v j) :=
  (h.comb (-1) h2).eqv (.of_eq fun j _ => by omega)
/-- a sum over rows, with numbers before them -/
theorem Sp.coef {p : Int} {C n : Nat} {M : Nat → Nat → Int} {v : Nat → Int} (h : Sp p C n M v) : ∃ c : Nat → Int, ∀ j, j < C → p ∣ v j - sm n (fun i => c i * M i j) := by
  induction h with
  | zero => exact ⟨fun _ => 0, fun j _ => by rw [sm_congr (g := fun _ => 0) (fun i _ => by simp), sm_zero]; simp⟩
  | @add v c i hi _ ih =>
    obtain ⟨d, hd⟩ := ih
    refine ⟨fun k => d k + c * if i = k then 1 else 0, fun j hj => ?_⟩
    have e : sm n (fun k => (d k + c * if i = k then 1 else 0) * M k j) = sm n (fun k => d k * M k j) + c * M i j := by
      rw [← sm_one n i hi c (fun k => M k j), ← sm_add]
      exact sm_congr fun k _ => by rw [Int.add_mul]
    rw [e]
    have := hd j hj
    rwa [show ∀ a b x : Int, a + x - (b + x) = a - b by intros; omega]
  | eqv _ e ih =>
    obtain ⟨d, hd⟩ := ih
    refine ⟨d, fun j hj => ?_⟩
    have := Int.dvd_sub (hd j hj) (e j hj)
    rwa [show ∀ a b x : Int, a - x - (a - b) = b - x by intros; omega] at this
theorem sp_sm {p : Int} {C n m : Nat} {M : Nat → Nat → Int} (c : Nat → Int) (hm : m ≤ n) : Sp p C n M (fun j => sm m (fun i => c i * M i j)) := by
  induction m with
  | zero => exact .zero
  | succ m ih => exact .add (c m) m (by omega) (ih (by omega))
theorem Sp.of_coef {p : Int} {C n : Nat} {M : Nat → Nat → Int} {v : Nat → Int} (c : Nat → Int) (h : ∀ j, j < C → p ∣ v j - sm n (fun i => c i * M i j)) : Sp p C n M v :=
  (sp_sm c (Nat.le_refl n)).eqv fun j hj => by
    have := Int.dvd_neg.2 (h j hj)
    rwa [Int.neg_sub] at this
theorem sm_split (a b : Nat) (f : Nat → Int) : sm (a + b) f = sm a f + sm b (fun i => f (a + i)) := by
  induction b with
  | zero => simp [sm]
  | succ b ih => rw [← Nat.add_assoc, sm, sm, ih]; omega

/-- the rows are independent -/
def Indep (p : Int) (C n : Nat) (M : Nat → Nat → Int) : Prop := ∀ c : Nat → Int, (∀ j, j < C → p ∣ sm n (fun i => c i * M i j)) → ∀ i, i < n → p ∣ c i
theorem Indep.part {p : Int} {C n m : Nat} {M : Nat → Nat → Int} (h : Indep p C n M) (hm : m ≤ n) : Indep p C m M := fun c hc i hi => by
  have := h (fun k => if k < m then c k else 0) (fun j hj => ?_) i (by omega)
  · simpa [hi] using this
  · obtain ⟨d, rfl⟩ : ∃ d, n = m + d := ⟨n - m, by omega⟩
    have e1 : sm d (fun k => (if m + k < m then c (m + k) else 0) * M (m + k) j) = 0 := (sm_congr (g := fun _ => 0) fun k _ => by simp [show ¬ m + k < m by omega]).trans (sm_zero d)
    have e2 : sm m (fun k => (if k < m then c k else 0) * M k j) = sm m (fun k => c k * M k j) := sm_congr fun k hk => by simp [hk]
    rw [sm_split, e1, e2, Int.add_zero]
    exact hc j hj
/-- a reduced form's rows are -/
theorem Red.indep {p : Int} {C n : Nat} {M : Nat → Nat → Int} {q : Nat → Nat} (h : Red p C n M q) : Indep p C n M := fun c hc i hi => by
  have := hc (q i) (h.lt i hi)
  rw [sm_congr (g := fun k => (c i * if i = k then 1 else 0) * (fun _ => 1) k) (fun k hk => ?_), sm_one n i hi] at this
  · simpa using this
  · rw [h.unit k i hk hi]
    by_cases e : i = k
    · subst e; simp
    · simp [e, show ¬ k = i from fun x => e x.symm]

/-- ascending from below n to below n': no more -/
theorem asc_into {n n' : Nat} {s : Nat → Nat} (h : ∀ i k, i < k → k < n → s i < s k) (hl : ∀ i, i < n → s i < n') : n ≤ n' := asc_bound h hl
theorem asc_same {n : Nat} {s : Nat → Nat} (h : ∀ i k, i < k → k < n → s i < s k) (hl : ∀ i, i < n → s i < n) : ∀ i, i < n → s i = i := by
  have lo : ∀ i, i < n → i ≤ s i := by
    intro i
    induction i with
    | zero => exact fun _ => Nat.zero_le _
    | succ i ih =>
      intro hi
      have a := ih (by omega)
      have b := h i (i + 1) (by omega) hi
      omega
  have hi' : ∀ d i, i < n → n - 1 - i = d → s i ≤ i := by
    intro d
    induction d with
    | zero => intro i hi e; have := hl i hi; omega
    | succ d ih =>
      intro i hi e
      have a := ih (i + 1) (by omega) (by omega)
      have b := h i (i + 1) (by omega) (by omega)
      omega
  intro i hi
  have := lo i hi
  have := hi' _ i hi rfl
  omega

/-- the columns of a span within another one -/
theorem red_cols {p : Int} {C n n' : Nat} {M M' : Nat → Nat → Int} {q q' : Nat → Nat} (hp : 2 ≤ p) (h : Red p C n M q) (h' : Red p C n' M' q') (ha : ∀ i k, i < k → k < n → q i < q k) (ha' : ∀ i k, i < k → k < n' → q' i < q' k)
    (hs : ∀ i, i < n' → Sp p C n M (M' i)) : ∃ s : Nat → Nat, (∀ k, k < n' → s k < n ∧ q (s k) = q' k) ∧ ∀ i k, i < k → k < n' → s i < s k := by
  have hc : ∀ k, ∃ i, k < n' → i < n ∧ q i = q' k := fun k => by
    by_cases hk : k < n'
    · obtain ⟨i, hi, e⟩ := Red.cols h h' hp hs hk
      exact ⟨i, fun _ => ⟨hi, e⟩⟩
    · exact ⟨0, fun x => absurd x hk⟩
  refine ⟨fun k => Classical.choose (hc k), fun k hk => Classical.choose_spec (hc k) hk, fun i k hik hk => ?_⟩
  have a := Classical.choose_spec (hc i) (by omega)
  have b := Classical.choose_spec (hc k) hk
  have := ha' i k hik hk
  rw [← a.2, ← b.2] at this
  show Classical.choose (hc i) < Classical.choose (hc k)
  generalize Classical.choose (hc i) = x at *
  generalize Classical.choose (hc k) = y at *
  rcases Nat.lt_or_ge x y with e | e
  · exact e
  · rcases Nat.lt_or_eq_of_le e with e | e
    · have := ha y x e a.1; omega
    · subst e; omega
/-- no greater rank -/
theorem IsRed.le {P : Int} {C R R' n n' : Nat} {M0 M1 M M' : Nat → Nat → Int} {q q' : Nat → Nat} (hP : 2 ≤ P) (h : IsRed P C R M0 n M q) (h' : IsRed P C R' M1 n' M' q') (hs : ∀ i, i < R' → Sp P C R M0 (M1 i)) : n' ≤ n := by
  have hs' : ∀ i, i < n' → Sp P C n M (M' i) := fun i hi => ((h'.2.2.2.2 i hi).trans hs).trans h.2.2.2.1
  obtain ⟨s, h1, h2⟩ := red_cols hP h.1 h'.1 h.2.1 h'.2.1 hs'
  exact asc_into h2 fun k hk => (h1 k hk).1
theorem HasRank.le_of_sub {P : Int} {C R R' n n' : Nat} {M0 M1 : Nat → Nat → Int} (hP : 2 ≤ P) (h : HasRank P C R M0 n) (h' : HasRank P C R' M1 n') (hs : ∀ i, i < R' → Sp P C R M0 (M1 i)) : n' ≤ n := by
  obtain ⟨M, q, h⟩ := h
  obtain ⟨M', q', h'⟩ := h'
  exact h.le hP h' hs
/-- a span within another one of the same rank is the same -/
theorem HasRank.same_of_sub {P : Int} {C R R' n : Nat} {M0 M1 : Nat → Nat → Int} (hP : 2 ≤ P) (h : HasRank P C R M0 n) (h' : HasRank P C R' M1 n) (hs : ∀ i, i < R' → Sp P C R M0 (M1 i)) : SameSp P C R' M1 R M0 := by
  obtain ⟨M, q, h⟩ := h
  obtain ⟨M', q', h'⟩ := h'
  have hs' : ∀ i, i < n → Sp P C n M (M' i) := fun i hi => ((h'.2.2.2.2 i hi).trans hs).trans h.2.2.2.1
  obtain ⟨s, h1, h2⟩ := red_cols hP h.1 h'.1 h.2.1 h'.2.1 hs'
  have h3 := asc_same h2 fun k hk => (h1 k hk).1
  have hq : ∀ k, k < n → q' k = q k := fun k hk => by have := (h1 k hk).2; rw [h3 k hk] at this; exact this.symm
  refine ⟨hs, fun i hi => ?_⟩
  -- a row of the greater one, less its part in the smaller one, has 0 at all columns
  have hrow : ∀ v, Sp P C n M v → Sp P C n M' v := fun v hv => by
    have hd : Sp P C n M (fun j => v j - sm n (fun i => v (q i) * M' i j)) := hv.sub ((sp_sm _ (Nat.le_refl n)).trans hs')
    have hz : ∀ k, k < n → P ∣ v (q k) - sm n (fun i => v (q i) * M' i (q k)) := fun k hk => by
      rw [sm_congr (g := fun i => (v (q k) * if k = i then 1 else 0) * (fun _ => 1) i) (fun i hi => ?_), sm_one n k hk]
      · simp
      · rw [← hq k hk, h'.1.unit i k hi hk]
        by_cases e : k = i
        · subst e; simp [hq k hk]
        · simp [e, show ¬ i = k from fun x => e x.symm]
    refine .of_coef (fun i => v (q i)) fun j hj => ?_
    have hco := h.1.coord hd j hj
    have : P ∣ sm n (fun i => (v (q i) - sm n (fun t => v (q t) * M' t (q i))) * M i j) := sm_dvd fun i hi => Int.dvd_mul_of_dvd_left (hz i hi)
    have := Int.dvd_add hco this
    rwa [Int.sub_add_cancel] at this
  exact (hrow _ (h.2.2.2.1 i hi)).trans h'.2.2.2.2
/-- independent rows are as many as the rank -/
theorem Indep.rank {P : Int} {C R : Nat} {M0 : Nat → Nat → Int} (hp : primeOk P = true) (hr : ∀ i j, i < R → j < C → 0 ≤ M0 i j ∧ M0 i j < P) (h : Indep P C R M0) : HasRank P C R M0 R := by
  obtain ⟨hP, _⟩ := primeOk_range hp
  obtain ⟨f, f0, f1, f2⟩ := ranks_ex hp R hr
  have h3 : ∀ n, n < R → f (n + 1) = f n + 1 := fun n hn => by
    rcases f2 n hn with e | e
    · exfalso
      have a := f1 n (by omega)
      have b := f1 (n + 1) hn
      rw [e] at b
      have hs := b.same_of_sub hP a fun i hi => .row (by omega)
      obtain ⟨c, hc⟩ := (hs.2 n (by omega)).coef
      have := h.part hn (fun k => if k = n then 1 else - c k) (fun j hj => ?_) n (by omega)
      · simp at this
        exact Red.not_dvd_one hP this
      · have := hc j hj
        rw [sm]
        simp only [if_true, Int.one_mul]
        rw [sm_congr (g := fun i => 0 - c i * M0 i j) (fun k hk => by rw [if_neg (by omega), Int.neg_mul]; omega), ← sm_sub, sm_zero]
        rwa [show ∀ a b : Int, 0 - a + b = b - a by intros; omega]
    · exact e
  have h4 : ∀ n, n ≤ R → f n = n := by
    intro n
    induction n with
    | zero => exact fun _ => f0
    | succ n ih => intro hn; rw [h3 n hn, ih (by omega)]
  have := f1 R (Nat.le_refl _)
  rwa [h4 R (Nat.le_refl _)] at this

end Go.Proofs.Ytoodgbflaaabmaa

namespace Go.Proofs.Ytoodgbflaaabmaa
set_option linter.all false
open Go.RowKit

/-- rows (x, x) of one, and (y, 0) of the other one -/
def mtM (c ra : Nat) (A B : Nat → Nat → Int) : Nat → Nat → Int := stackM ra (fun i j => if j < c then A i j else A i (j - c)) (fun i j => if j < c then B i j else 0)
/-- the rows that begin in the second half -/
def keptL (n c : Nat) (q : Nat → Nat) : List Nat := (List.range n).filter fun i => decide (c ≤ q i)
def keptM (c : Nat) (M : Nat → Nat → Int) (l : List Nat) (t j : Nat) : Int := M (l.getD t 0) (c + j)
/-- what is in common -/
def MtIs (P : Int) (c ra rb : Nat) (A B : Nat → Nat → Int) (m : Mx) : Prop :=
  ∃ n M q, IsRed P (2 * c) (ra + rb) (mtM c ra A B) n M q ∧ RowsIs P c (keptL n c q).length (keptM c M (keptL n c q)) m
theorem keptL_lt {n c t : Nat} {q : Nat → Nat} (h : t < (keptL n c q).length) : (keptL n c q).getD t 0 < n := by
  have : (keptL n c q).getD t 0 ∈ keptL n c q := by
    rw [List.getD_eq_getElem?_getD, List.getElem?_eq_getElem h]; exact List.getElem_mem _
  have := (List.mem_filter.1 this).1
  simpa using this
theorem keptL_congr {n c : Nat} {q q' : Nat → Nat} (h : ∀ i, i < n → q i = q' i) : keptL n c q = keptL n c q' := by
  unfold keptL
  refine List.filter_congr fun i hi => ?_
  rw [h i (by simpa using hi)]
theorem keptL_succ (n c : Nat) (q : Nat → Nat) : keptL (n + 1) c q = keptL n c q ++ (if c ≤ q n then [n] else []) := by
  unfold keptL
  rw [List.range_succ, List.filter_append]
  by_cases h : c ≤ q n <;> simp [h]
theorem keptL_le (n c : Nat) (q : Nat → Nat) : (keptL n c q).length ≤ n := by
  unfold keptL
  have := List.length_filter_le (fun i => decide (c ≤ q i)) (List.range n)
  simpa using this
theorem MtIs.one {P : Int} {c ra rb : Nat} {A B : Nat → Nat → Int} {m m' : Mx} (hP : 2 ≤ P) (h : MtIs P c ra rb A B m) (h' : MtIs P c ra rb A B m') : m = m' := by
  obtain ⟨n, M, q, h1, h2⟩ := h
  obtain ⟨n', M', q', h1', h2'⟩ := h'
  obtain ⟨e1, e2, e3⟩ := h1.one hP h1'
  subst e1
  rw [← keptL_congr e2] at h2'
  refine h2.one hP (h2'.same (SameSp.of_eqv fun t ht => .of_eq fun j hj => ?_))
  unfold keptM
  exact e3 _ _ (keptL_lt ht) (by omega)

/-- what MeetSpaces returns -/
def MeIs (P R C : Int) (D : List Int) (P' R' C' : Int) (D' : List Int) (m : Mx) (ok : Bool) : Prop :=
  (TwoIs P R C D P' R' C' D' ∧ ok = true ∧ MtIs P C.toNat R.toNat R'.toNat (mf C.toNat fun t => D.getD t 0) (mf C.toNat fun t => D'.getD t 0) m) ∨ (¬ TwoIs P R C D P' R' C' D' ∧ ok = false ∧ m = mxZero)
theorem MeIs.one {P R C : Int} {D : List Int} {P' R' C' : Int} {D' : List Int} (m : Mx) (b : Bool) (m' : Mx) (b' : Bool) (h : MeIs P R C D P' R' C' D' m b) (h' : MeIs P R C D P' R' C' D' m' b') : m = m' ∧ b = b' := by
  rcases h with ⟨t, rfl, h⟩ | ⟨t, rfl, rfl⟩
  · rcases h' with ⟨_, rfl, h'⟩ | ⟨t', _, _⟩
    · obtain ⟨_, _, _, _, _, _, _, _, _, hP, _⟩ := mxOk_facts t.1.1
      exact ⟨h.one hP h', rfl⟩
    · exact absurd t t'
  · rcases h' with ⟨t', _, _⟩ | ⟨_, rfl, rfl⟩
    · exact absurd t' t
    · exact ⟨rfl, rfl⟩
theorem meet_len (P R C : Int) (D : List Int) (P' R' C' : Int) (D' : List Int) : (Classical.epsilon (PrQ (MeIs P R C D P' R' C' D'))).1.D.length ≤ 1000 := by
  rcases PrQ.spec (MeIs P R C D P' R' C' D') with h | ⟨_, h⟩
  · rcases h with ⟨t, _, n, M, q, _, h⟩ | ⟨_, _, h⟩
    · obtain ⟨r, c, _, rfl, _, _, hc, _⟩ := mxOk_facts t.1.1
      exact h.len (by simp; omega)
    · rw [h]; simp [mxZero]
  · rw [h]; simp [mxZero]

theorem flat_ltW {n C i c : Nat} (hi : i < n) (hc : c < C) : i * C + c < n * C := by
  have : (i + 1) * C ≤ n * C := Nat.mul_le_mul_right C hi
  rw [Nat.succ_mul] at this
  omega
/-- rows of one width, one behind the other -/
def rowsF (k : Nat) (f : Nat → List Int) : List Int := (List.range k).flatMap f
theorem rowsF_succ (k : Nat) (f : Nat → List Int) : rowsF (k + 1) f = rowsF k f ++ f k := by
  unfold rowsF
  rw [List.range_succ, List.flatMap_append]; simp
theorem rowsF_length {k W : Nat} {f : Nat → List Int} (h : ∀ i, i < k → (f i).length = W) : (rowsF k f).length = k * W := by
  induction k with
  | zero => simp [rowsF]
  | succ k ih => rw [rowsF_succ, List.length_append, ih fun i hi => h i (by omega), h k (by omega), Nat.succ_mul]
theorem rowsF_getD {k W : Nat} {f : Nat → List Int} (h : ∀ i, i < k → (f i).length = W) {i j : Nat} (hi : i < k) (hj : j < W) : (rowsF k f).getD (i * W + j) 0 = (f i).getD j 0 := by
  induction k with
  | zero => omega
  | succ k ih =>
    have hl := rowsF_length (k := k) (fun i hi => h i (by omega))
    rw [rowsF_succ]
    by_cases e : i < k
    · have := flat_ltW e hj
      rw [List.getD_eq_getElem?_getD, List.getElem?_append_left (by omega), ← List.getD_eq_getElem?_getD]
      exact ih (fun i hi => h i (by omega)) e
    · obtain rfl : i = k := by omega
      rw [List.getD_eq_getElem?_getD, List.getElem?_append_right (by omega), ← List.getD_eq_getElem?_getD, hl, Nat.add_sub_cancel_left]

end Go.Proofs.Ytoodgbflaaabmaa

namespace Go.Proofs.Ytoodgbflaaabmaa
set_option linter.all false

/-- the rows that begin in the second half are the last ones -/
theorem kept_last (c : Nat) (q : Nat → Nat) : ∀ n, (∀ i k, i < k → k < n → q i < q k) → ∃ n1 n2, n = n1 + n2 ∧ (keptL n c q).length = n2 ∧ (∀ t, t < n2 → (keptL n c q).getD t 0 = n1 + t) ∧ (∀ i, i < n1 → q i < c) ∧ ∀ i, n1 ≤ i → i < n → c ≤ q i := by
  intro n
  induction n with
  | zero => exact fun _ => ⟨0, 0, rfl, rfl, fun t h => absurd h (Nat.not_lt_zero _), fun t h => absurd h (Nat.not_lt_zero _), fun i _ h => absurd h (Nat.not_lt_zero _)⟩
  | succ n ih =>
    intro ha
    obtain ⟨n1, n2, e, h1, h2, h3, h4⟩ := ih fun i k hik hk => ha i k hik (by omega)
    by_cases hq : c ≤ q n
    · have ek : keptL (n + 1) c q = keptL n c q ++ [n] := by rw [keptL_succ, if_pos hq]
      refine ⟨n1, n2 + 1, by omega, by rw [ek, List.length_append, h1]; rfl, fun t ht => ?_, h3, fun i hi hn => ?_⟩
      · rw [ek]
        by_cases et : t < n2
        · rw [List.getD_eq_getElem?_getD, List.getElem?_append_left (by omega), ← List.getD_eq_getElem?_getD]
          exact h2 t et
        · obtain rfl : t = n2 := by omega
          rw [List.getD_eq_getElem?_getD, List.getElem?_append_right (by omega), h1]
          simp; omega
      · by_cases ei : i < n
        · exact h4 i hi ei
        · obtain rfl : i = n := by omega
          exact hq
    · have ek : keptL (n + 1) c q = keptL n c q := by rw [keptL_succ, if_neg hq, List.append_nil]
      have h0 : n2 = 0 := by
        rcases Nat.eq_zero_or_pos n2 with e0 | e0
        · exact e0
        · have a := h4 (n - 1) (by omega) (by omega)
          have b := ha (n - 1) n (by omega) (by omega)
          omega
      subst h0
      refine ⟨n1 + 1, 0, by omega, by rw [ek]; exact h1, fun t h => absurd h (Nat.not_lt_zero _), fun i hi => ?_, fun i hi hn => by omega⟩
      by_cases ei : i < n1
      · exact h3 i ei
      · rw [show i = n by omega]; omega

variable {P : Int} {c ra rb : Nat} {A B : Nat → Nat → Int}

theorem mtM_A {i j : Nat} (hi : i < ra) (hj : j < c) : mtM c ra A B i j = A i j ∧ mtM c ra A B i (c + j) = A i j := by
  unfold mtM
  rw [stackM_lt hi]
  exact ⟨by simp [hj], by simp [show ¬ c + j < c by omega]⟩
theorem mtM_B {i j : Nat} (hi : ¬ i < ra) (hj : j < c) : mtM c ra A B i j = B (i - ra) j ∧ mtM c ra A B i (c + j) = 0 := by
  unfold mtM
  rw [stackM_ge hi]
  exact ⟨by simp [hj], by simp [show ¬ c + j < c by omega]⟩
/-- what (x + y, x) is -/
theorem mt_parts {v : Nat → Int} (h : Sp P (2 * c) (ra + rb) (mtM c ra A B) v) : ∃ x y, Sp P c ra A x ∧ Sp P c rb B y ∧ (∀ j, j < c → P ∣ v j - (x j + y j)) ∧ ∀ j, j < c → P ∣ v (c + j) - x j := by
  induction h with
  | zero => exact ⟨fun _ => 0, fun _ => 0, .zero, .zero, fun j _ => by simp, fun j _ => by simp⟩
  | @add v a i hi _ ih =>
    obtain ⟨x, y, h1, h2, h3, h4⟩ := ih
    by_cases e : i < ra
    · refine ⟨fun j => x j + a * A i j, y, .add a i e h1, h2, fun j hj => ?_, fun j hj => ?_⟩
      · show P ∣ v j + a * mtM c ra A B i j - (x j + a * A i j + y j)
        rw [(mtM_A e hj).1]
        have := h3 j hj
        rwa [show ∀ v x y t : Int, v + t - (x + t + y) = v - (x + y) by intros; omega]
      · show P ∣ v (c + j) + a * mtM c ra A B i (c + j) - (x j + a * A i j)
        rw [(mtM_A e hj).2]
        have := h4 j hj
        rwa [show ∀ v x t : Int, v + t - (x + t) = v - x by intros; omega]
    · refine ⟨x, fun j => y j + a * B (i - ra) j, h1, .add a _ (by omega) h2, fun j hj => ?_, fun j hj => ?_⟩
      · show P ∣ v j + a * mtM c ra A B i j - (x j + (y j + a * B (i - ra) j))
        rw [(mtM_B e hj).1]
        have := h3 j hj
        rwa [show ∀ v x y t : Int, v + t - (x + (y + t)) = v - (x + y) by intros; omega]
      · show P ∣ v (c + j) + a * mtM c ra A B i (c + j) - x j
        rw [(mtM_B e hj).2, Int.mul_zero, Int.add_zero]
        exact h4 j hj
  | eqv _ e ih =>
    obtain ⟨x, y, h1, h2, h3, h4⟩ := ih
    refine ⟨x, y, h1, h2, fun j hj => ?_, fun j hj => ?_⟩
    · have := Int.dvd_sub (h3 j hj) (e j (by omega))
      rwa [show ∀ u v t : Int, u - t - (u - v) = v - t by intros; omega] at this
    · have := Int.dvd_sub (h4 j hj) (e (c + j) (by omega))
      rwa [show ∀ u v t : Int, u - t - (u - v) = v - t by intros; omega] at this
theorem mt_indep (hA : Indep P c ra A) (hB : Indep P c rb B) : Indep P (2 * c) (ra + rb) (mtM c ra A B) := fun d hd => by
  have h1 : ∀ i, i < ra → P ∣ d i := hA d fun j hj => by
    have := hd (c + j) (by omega)
    rw [sm_split, sm_congr (n := ra) (g := fun i => d i * A i j) (fun i hi => by rw [(mtM_A hi hj).2]), sm_congr (n := rb) (g := fun _ => 0) (fun i _ => by rw [(mtM_B (by omega) hj).2, Int.mul_zero]), sm_zero, Int.add_zero] at this
    exact this
  have h2 : ∀ i, i < rb → P ∣ d (ra + i) := hB (fun i => d (ra + i)) fun j hj => by
    have := hd j (by omega)
    rw [sm_split, sm_congr (n := ra) (g := fun i => d i * A i j) (fun i hi => by rw [(mtM_A hi hj).1]), sm_congr (n := rb) (g := fun i => d (ra + i) * B i j) (fun i _ => by rw [(mtM_B (by omega) hj).1, Nat.add_sub_cancel_left])] at this
    have h3 : P ∣ sm ra (fun i => d i * A i j) := sm_dvd fun i hi => Int.dvd_mul_of_dvd_left (h1 i hi)
    have := Int.dvd_sub this h3
    rwa [show ∀ a b : Int, a + b - a = b by intros; omega] at this
  intro i hi
  by_cases e : i < ra
  · exact h1 i e
  · have := h2 (i - ra) (by omega)
    rwa [show ra + (i - ra) = i by omega] at this
theorem mtM_rng (hP : 0 < P) (hA : ∀ i j, i < ra → j < c → 0 ≤ A i j ∧ A i j < P) (hB : ∀ i j, i < rb → j < c → 0 ≤ B i j ∧ B i j < P) : ∀ i j, i < ra + rb → j < 2 * c → 0 ≤ mtM c ra A B i j ∧ mtM c ra A B i j < P := fun i j hi hj => by
  by_cases ej : j < c
  · by_cases e : i < ra
    · rw [(mtM_A e ej).1]; exact hA i j e ej
    · rw [(mtM_B e ej).1]; exact hB _ j (by omega) ej
  · obtain ⟨t, rfl⟩ : ∃ t, j = c + t := ⟨j - c, by omega⟩
    by_cases e : i < ra
    · rw [(mtM_A e (by omega)).2]; exact hA i t e (by omega)
    · rw [(mtM_B e (by omega)).2]; omega

/-- the first halves are the sum's reduced form, the kept second halves are reduced; they lie in both spaces -/
theorem zass (hp : primeOk P = true) (hA : ∀ i j, i < ra → j < c → 0 ≤ A i j ∧ A i j < P) (hB : ∀ i j, i < rb → j < c → 0 ≤ B i j ∧ B i j < P) (iA : Indep P c ra A) (iB : Indep P c rb B)
    {n : Nat} {M : Nat → Nat → Int} {q : Nat → Nat} (h : IsRed P (2 * c) (ra + rb) (mtM c ra A B) n M q) :
    ∃ n1 n2 q2, n1 + n2 = ra + rb ∧ (keptL n c q).length = n2 ∧ IsRed P c (ra + rb) (stackM ra A B) n1 M q ∧ IsRed P c n2 (keptM c M (keptL n c q)) n2 (keptM c M (keptL n c q)) q2 ∧
      ∀ t, t < n2 → Sp P c ra A (keptM c M (keptL n c q) t) ∧ Sp P c rb B (keptM c M (keptL n c q) t) := by
  obtain ⟨hP, _⟩ := primeOk_range hp
  have hn : n = ra + rb := HasRank.one hP ⟨M, q, h⟩ ((mt_indep iA iB).rank hp (mtM_rng (by omega) hA hB))
  obtain ⟨hr, ha, hg, hs⟩ := h
  obtain ⟨n1, n2, e, k1, k2, k3, k4⟩ := kept_last c q n ha
  have hz : ∀ i j, n1 ≤ i → i < n → j < c → M i j = 0 := fun i j hi hin hj => hr.lead i j hin (Nat.lt_of_lt_of_le hj (k4 i hi hin))
  refine ⟨n1, n2, fun t => q (n1 + t) - c, by omega, k1, ⟨⟨k3, fun i k hi hk => hr.unit i k (by omega) (by omega), fun i j hi hj => hr.lead i j (by omega) hj⟩, fun i k hik hk => ha i k hik (by omega), fun i j hi hj => hg i j (by omega) (by omega), ?_⟩, ?_, ?_⟩
  · -- what the first halves span
    have hfirst : ∀ v, Sp P (2 * c) n M v → Sp P c n1 M v := fun v hv => (hv.narrow (C' := c) (by omega)).trans fun i hi => by
      by_cases ei : i < n1
      · exact .row ei
      · exact Sp.zero.eqv (.of_eq fun j hj => (hz i j (by omega) hi hj).symm)
    constructor
    · intro i hi
      refine (hfirst _ (hs.1 i hi)).eqv (.of_eq fun j hj => ?_)
      by_cases ei : i < ra
      · rw [(mtM_A ei hj).1, stackM_lt ei]
      · rw [(mtM_B ei hj).1, stackM_ge ei]
    · intro i hi
      refine ((hs.2 i (by omega)).narrow (C' := c) (by omega)).congr fun k hk => .of_eq fun j hj => ?_
      by_cases ei : k < ra
      · rw [(mtM_A ei hj).1, stackM_lt ei]
      · rw [(mtM_B ei hj).1, stackM_ge ei]
  · refine ⟨⟨fun t ht => ?_, fun i k hi hk => ?_, fun i j hi hj => ?_⟩, fun i k hik hk => ?_, fun i j hi hj => ?_, .refl⟩
    · have := hr.lt (n1 + t) (by omega)
      have := k4 (n1 + t) (by omega) (by omega)
      omega
    · unfold keptM
      rw [k2 i hi]
      have := k4 (n1 + k) (by omega) (by omega)
      rw [show c + (q (n1 + k) - c) = q (n1 + k) by omega, hr.unit _ _ (by omega) (by omega)]
      by_cases ei : i = k
      · simp [ei]
      · rw [if_neg ei, if_neg (by omega)]
    · unfold keptM
      rw [k2 i hi]
      exact hr.lead _ _ (by omega) (by omega)
    · have := ha (n1 + i) (n1 + k) (by omega) (by omega)
      have := k4 (n1 + i) (by omega) (by omega)
      show q (n1 + i) - c < q (n1 + k) - c
      omega
    · unfold keptM
      rw [k2 i hi]
      exact hg _ _ (by omega) (by omega)
  · intro t ht
    unfold keptM
    rw [k2 t ht]
    obtain ⟨x, y, h1, h2, h3, h4⟩ := mt_parts (hs.2 (n1 + t) (by omega))
    refine ⟨h1.eqv fun j hj => ?_, ((h2.smul (-1)).eqv fun j hj => ?_)⟩
    · have := Int.dvd_neg.2 (h4 j hj)
      rwa [Int.neg_sub] at this
    · have a := h3 j hj
      rw [hz (n1 + t) j (by omega) (by omega) hj] at a
      have b := h4 j hj
      have := Int.dvd_sub a b
      rwa [show ∀ x y m : Int, 0 - (x + y) - (m - x) = -1 * y - m by intros; omega] at this
/-- what lies in both is spanned by the kept halves -/
theorem zass_all (hp : primeOk P = true) {n : Nat} {M : Nat → Nat → Int} {q : Nat → Nat} (h : IsRed P (2 * c) (ra + rb) (mtM c ra A B) n M q) {v : Nat → Int} (h1 : Sp P c ra A v) (h2 : Sp P c rb B v) :
    Sp P c (keptL n c q).length (keptM c M (keptL n c q)) v := by
  obtain ⟨hr, ha, hg, hs⟩ := h
  obtain ⟨n1, n2, e, k1, k2, k3, k4⟩ := kept_last c q n ha
  -- (0, v) is (v, v) less (v, 0)
  have sA : ∀ x, Sp P c ra A x → Sp P (2 * c) (ra + rb) (mtM c ra A B) (fun j => if j < c then x j else x (j - c)) := fun x hx => by
    induction hx with
    | zero => exact Sp.zero.eqv (.of_eq fun j _ => by simp)
    | @add v a i hi _ ih =>
      refine (Sp.add a i (by omega) ih).eqv (.of_eq fun j hj => ?_)
      by_cases ej : j < c
      · rw [(mtM_A hi ej).1]; simp [ej]
      · obtain ⟨t, rfl⟩ : ∃ t, j = c + t := ⟨j - c, by omega⟩
        rw [(mtM_A hi (by omega)).2]; simp [show ¬ c + t < c by omega]
    | eqv _ e ih =>
      refine ih.eqv fun j hj => ?_
      by_cases ej : j < c
      · simp only [ej, if_true]; exact e j ej
      · simp only [ej, if_false]; exact e _ (by omega)
  have sB : ∀ x, Sp P c rb B x → Sp P (2 * c) (ra + rb) (mtM c ra A B) (fun j => if j < c then x j else 0) := fun x hx => by
    induction hx with
    | zero => exact Sp.zero.eqv (.of_eq fun j _ => by simp)
    | @add v a i hi _ ih =>
      refine (Sp.add a (ra + i) (by omega) ih).eqv (.of_eq fun j hj => ?_)
      by_cases ej : j < c
      · rw [(mtM_B (by omega) ej).1]; simp [ej]
      · obtain ⟨t, rfl⟩ : ∃ t, j = c + t := ⟨j - c, by omega⟩
        rw [(mtM_B (by omega) (by omega)).2]; simp [show ¬ c + t < c by omega]
    | eqv _ e ih =>
      refine ih.eqv fun j hj => ?_
      by_cases ej : j < c
      · simp only [ej, if_true]; exact e j ej
      · simp [ej]
  have hv := ((sA v h1).sub (sB v h2)).trans hs.1
  have h0 : ∀ j, j < c → P ∣ (if j < c then v j else v (j - c)) - (if j < c then v j else 0) := fun j hj => by simp [hj]
  have hco := hr.coord hv
  refine .of_coef (fun t => v (q (n1 + t) - c)) fun j hj => ?_
  have := hco (c + j) (by omega)
  rw [e, sm_split] at this
  have hz : P ∣ sm n1 (fun i => ((if q i < c then v (q i) else v (q i - c)) - (if q i < c then v (q i) else 0)) * M i (c + j)) := sm_dvd fun i hi => Int.dvd_mul_of_dvd_left (h0 _ (k3 i hi))
  have := Int.dvd_add this hz
  rw [show ∀ a b d : Int, a - (b + d) + b = a - d by intros; omega] at this
  rw [k1]
  rw [sm_congr (n := n2) (g := fun t => v (q (n1 + t) - c) * keptM c M (keptL n c q) t j) (fun t ht => ?_)] at this
  · simpa [show ¬ c + j < c by omega] using this
  · have := k4 (n1 + t) (by omega) (by omega)
    unfold keptM
    rw [k2 t ht]
    simp [show ¬ q (n1 + t) < c by omega]

end Go.Proofs.Ytoodgbflaaabmaa
