/-
  The reference's l1Factorial and l1Decode.
  The draws: a permutation, the identity.
  The rank of one row more (plain law; no program in sight).
  More of spans and ranks: rows that are independent, spans within spans, halves of rows (plain law; no program in sight).
-/
import Derived.Test.YtoodgbflaaabmaaJ4
import Derived.Test.YtoodgbflaaabmaaJ2
import Derived.Test.YtoodgbflaaabmaaJ3
import Derived.Test.YtoodgbflaaabmaaJ8
namespace Go.Proofs.Ytoodgbflaaabmaa
set_option linter.all false
open Go.RowKit

def fact : Nat → Nat
  | 0 => 1
  | n + 1 => (n + 1) * fact n
theorem fact_pos (n : Nat) : 1 ≤ fact n := by
  induction n with
  | zero => exact Nat.le_refl _
  | succ n ih => exact Nat.le_trans ih (Nat.le_mul_of_pos_left _ (Nat.succ_pos n))
theorem fact_le {a b : Nat} (h : a ≤ b) : fact a ≤ fact b := by
  induction h with
  | refl => exact Nat.le_refl _
  | step _ ih => exact Nat.le_trans ih (Nat.le_mul_of_pos_left _ (Nat.succ_pos _))

/-- the left-th number that is not in out is put behind it -/
def decGo (out : List Int) : Nat → Nat → Nat → List Int
  | 0, _, _ => out
  | f + 1, v, left => if (v : Int) ∈ out then decGo out f (v + 1) left else if left = 0 then out ++ [(v : Int)] else decGo out f (v + 1) (left - 1)
def decL (n : Nat) (c : List Nat) : List Int := c.foldl (fun out left => decGo out n 0 left) []
theorem decL_snoc (n : Nat) (c : List Nat) (x : Nat) : decL n (c ++ [x]) = decGo (decL n c) n 0 x := by simp [decL]

theorem decGo_len (out : List Int) (f v left : Nat) : (decGo out f v left).length ≤ out.length + 1 := by
  induction f generalizing v left with
  | zero => simp [decGo]
  | succ f ih =>
    unfold decGo
    split
    · exact ih _ _
    · split
      · simp
      · exact ih _ _
theorem decL_len (n : Nat) (c : List Nat) (k : Nat) : (decL n (c.take k)).length ≤ k := by
  induction k with
  | zero => simp [decL]
  | succ k ih =>
    by_cases h : k < c.length
    · have e : c.take (k + 1) = c.take k ++ [c[k]] := by rw [List.take_add_one, List.getElem?_eq_getElem h]; rfl
      rw [e, decL_snoc]
      exact Nat.le_trans (decGo_len _ _ _ _) (by omega)
    · rw [List.take_of_length_le (by omega)]
      rw [List.take_of_length_le (by omega)] at ih
      omega

set_option maxRecDepth 100000 in
set_option maxHeartbeats 2000000 in
theorem specDecode_any (v : Value) (c : List Nat) (w : World) (h : Ints w v (c.map Int.ofNat)) (hn : c.length ≤ 100) (hs : ∀ x ∈ c, x ≤ 1000000) :
    Calls Try.prog 66 #[v] w (RetI w (decL c.length c)) := by
  obtain ⟨p, cap, rfl, ⟨hx1, hx⟩, hxc⟩ := h
  rw [List.length_map] at *
  unfold maxLen at hx
  have Hxc := Lib.hid hxc
  have Hs := Lib.hid hs
  clear hxc hs
  go_enter Try.func66, Try.ntmps66
  go_wp2
  go_loopg [3, 4] c.length (fun g s3 i wr => ∃ k : Nat, k ≤ c.length ∧ g = c.length - k ∧ i = .int .i64 k ∧ Below w.heap.size w wr ∧ OwnI 3 wr w.heap.size wr.heap.size s3 (decL c.length (c.take k)))
  case atStart => exact ⟨0, Nat.zero_le _, rfl, rfl, below_alloc _ _, (OwnF.ints (xs := []) ((OwnF.made0 w _ _))).mono (Nat.le_refl _) (by simp)⟩
  case round =>
    obtain ⟨k, hk, rfl, rfl, hb, ho⟩ := hrel
    by_cases hlt : k < c.length
    · obtain ⟨b, off, rfl, hc⟩ := Hxc.out (by omega)
      have c1 := cell_below hb (hc k hlt)
      have e1 : iv (c.map Int.ofNat) k = .int .i64 (c.getD k 0 : Nat) := by simp [iv, List.getD_eq_getElem?_getD, hlt]
      rw [e1] at c1
      have hck : c.getD k 0 ≤ 1000000 := Hs.out _ (by simp [List.getD_eq_getElem?_getD, hlt])
      have e2 : decL c.length (c.take (k + 1)) = decGo (decL c.length (c.take k)) c.length 0 (c.getD k 0) := by
        rw [List.take_add_one, List.getElem?_eq_getElem hlt]
        simp only [Option.toList]
        rw [decL_snoc]
        simp [List.getD_eq_getElem?_getD, hlt]
      have hln := decL_len c.length c k
      generalize hX : c.getD k 0 = X at c1 hck e2
      generalize hO : decL c.length (c.take k) = out at ho e2 hln
      have E2 := Lib.hid e2
      have Ho := Lib.hid ho
      obtain ⟨p3, k3, rfl, _, _⟩ := ho.shape
      clear hc e1 e2 hX hO ho
      obtain ⟨wo, rfl⟩ : ∃ x : World, x = wr := ⟨_, rfl⟩
      go_wp2
      go_loopg [3, 5, 6] c.length (fun g s3 s5 s6 wr => ∃ left v : Nat, v ≤ c.length ∧ left ≤ 1000000 ∧ g = c.length - v ∧ s3 = .slice p3 out.length k3 ∧ s5 = .int .i64 left ∧ s6 = .int .i64 v ∧ Qt wo wr ∧ Hid (decGo out (c.length - v) v left = decGo out c.length 0 X))
      case atStart => exact ⟨X, 0, Nat.zero_le _, hck, rfl, rfl, rfl, rfl, Qt.refl _, rfl⟩
      case round =>
        obtain ⟨left, v, hv, hleft, rfl, rfl, rfl, rfl, hq, hg⟩ := hrel
        by_cases hvlt : v < c.length
        · by_cases hmem : (v : Int) ∈ out
          · have hc := l1Has_any _ out v wr (Ho.out.ints.qt hq)
            rw [decide_eq_true hmem] at hc
            have Hc := Lib.hid hc
            have hg2 : decGo out (c.length - (v + 1)) (v + 1) left = decGo out c.length 0 X := by
              rw [← hg.out, show c.length - v = (c.length - (v + 1)) + 1 by omega]
              simp [decGo, hmem]
            have Hg2 := Lib.hid hg2
            clear hc hg hg2 hmem
            go_wp2_with fail
            refine Hc.out.mono ?_
            rintro e w1 ⟨rfl, hq1⟩
            go_wp2_with fail
            go_roundg (c.length - (v + 1))
            case measure => omega
            case rel => exact ⟨left, v + 1, by omega, hleft, rfl, rfl, rfl, by go_num, hq.trans hq1, Hg2.out⟩
          · have hc := l1Has_any _ out v wr (Ho.out.ints.qt hq)
            rw [decide_eq_false hmem] at hc
            have Hc := Lib.hid hc
            by_cases hl0 : left = 0
            · subst hl0
              have hg2 : out ++ [(v : Int)] = decGo out c.length 0 X := by
                rw [← hg.out, show c.length - v = (c.length - (v + 1)) + 1 by omega]
                simp [decGo, hmem]
              have Hg2 := Lib.hid hg2
              clear hc hg hg2 hmem
              go_wp2_with fail
              refine Hc.out.mono ?_
              rintro e w1 ⟨rfl, hq1⟩
              have Hq1 := Lib.hid (hq.trans hq1)
              have Ho1 := Lib.hid (Ho.out.below (Hq1.out.below _))
              have Hb1 := Lib.hid (show out.length + 1 ≤ maxLen by unfold maxLen; omega)
              have Hb2 := Lib.hid (show (out.length + 1) * 8 ≤ 140737488355328 by omega)
              have Hsz : Hid (w1.heap.size = wo.heap.size) := by unfold Hid; rw [Hq1.out.size]
              have hsw := hb.size
              go_wp2_with (at_builtin; go_must (refine wpList_append_F rfl (.tmp 29) (.tmp 31) 24 rfl 3 (.int .i64 0) 8 Try.underlying24 info_int rfl w.heap.size wo.heap.size _ out.length (iv out) rfl ((Ho1.out.below (below_alloc _ _)).fn) (by have := Hsz.out; simp; omega) (by have := Hsz.out; simp; omega) _ _ _ rfl (rd_one _ _ _ rfl) (fun j _ => rfl) Hb1.out Hb2.out ?_; intro v' w' ho' hg'))
              have hsw' := hg'.size
              simp only [size_alloc] at hsw'
              have hsz := Hsz.out
              have hblow : Below w.heap.size wo w' := (Hq1.out.below _).trans (((below_alloc w1 _).mono (by omega)).trans (grownBy_below hg' Ho1.out.fn.blocks (Nat.le_refl _) (by simp; omega)))
              go_roundg (c.length - (k + 1))
              case measure => omega
              case rel =>
                refine ⟨k + 1, by omega, rfl, by go_num, hb.trans hblow, ?_⟩
                rw [E2.out, ← Hg2.out]
                refine OwnF.ints ?_
                rw [List.length_append]
                exact ho'.congr fun j hj => by
                  by_cases h : j < out.length
                  · simp [h, iv, List.getD_eq_getElem?_getD, List.getElem?_append_left h]
                  · have : j = out.length := by omega
                    subst this
                    simp [iv, List.getD_eq_getElem?_getD]
            · have hg2 : decGo out (c.length - (v + 1)) (v + 1) (left - 1) = decGo out c.length 0 X := by
                rw [← hg.out, show c.length - v = (c.length - (v + 1)) + 1 by omega]
                simp [decGo, hmem, hl0]
              have Hg2 := Lib.hid hg2
              clear hc hg hg2 hmem
              go_wp2_with fail
              refine Hc.out.mono ?_
              rintro e w1 ⟨rfl, hq1⟩
              go_wp2_with fail
              go_roundg (c.length - (v + 1))
              case measure => omega
              case rel => exact ⟨left - 1, v + 1, by omega, by omega, rfl, rfl, by go_num, by go_num, hq.trans hq1, Hg2.out⟩
        · have hv2 : v = c.length := by omega
          subst hv2
          have hg2 : out = decGo out c.length 0 X := by
            rw [← hg.out, Nat.sub_self]; rfl
          have Hg2 := Lib.hid hg2
          clear hg hg2
          go_wp2_with fail
          go_roundg (c.length - (k + 1))
          case measure => omega
          case rel =>
            refine ⟨k + 1, by omega, rfl, by go_num, hb.trans (hq.below _), ?_⟩
            rw [E2.out, ← Hg2.out, hq.size]
            exact Ho.out.below (hq.below _)
    · go_wp2
      go_ret
      obtain rfl : k = c.length := by omega
      rw [List.take_length] at ho
      exact ⟨_, rfl, ho, hb⟩

end Go.Proofs.Ytoodgbflaaabmaa

namespace Go.Proofs.Ytoodgbflaaabmaa
set_option linter.all false
open Go.RowKit

/-- all codes of m places -/
def codes : Nat → List (List Nat)
  | 0 => [[]]
  | m + 1 => (List.range (m + 1)).flatMap fun x => (codes m).map (x :: ·)
theorem mem_codes : ∀ (m : Nat) (c : List Nat), c.length = m → (∀ j, j < m → c.getD j 0 < m - j) → c ∈ codes m
  | 0, c, hl, _ => by
    obtain rfl := List.eq_nil_of_length_eq_zero hl
    simp [codes]
  | m + 1, [], hl, _ => by simp at hl
  | m + 1, x :: c, hl, h => by
    have h0 := h 0 (by omega)
    have ih := mem_codes m c (by simpa using hl) fun j hj => by
      have := h (j + 1) (by omega)
      simp at this ⊢
      omega
    unfold codes
    refine List.mem_flatMap.2 ⟨x, by simpa using h0, List.mem_map.2 ⟨c, ih, rfl⟩⟩
theorem decL_ok {n : Nat} (h1 : 1 ≤ n) (h5 : n ≤ 5) (c : List Nat) (hl : c.length = n) (h : ∀ j, j < n → c.getD j 0 < n - j) : permOk (decL n c) = true ∧ (decL n c).length = n := by
  have hc := mem_codes n c hl h
  have key : ∀ c ∈ codes n, permOk (decL n c) = true ∧ (decL n c).length = n := by
    have : n = 1 ∨ n = 2 ∨ n = 3 ∨ n = 4 ∨ n = 5 := by omega
    rcases this with rfl | rfl | rfl | rfl | rfl <;> decide +kernel
  exact key c hc

set_option maxRecDepth 100000 in
set_option maxHeartbeats 2000000 in
/-- any permutation of n -/
theorem dPerm_any (k n : Nat) (w : World) (h : Cur w k) (h1 : 1 ≤ n) (h5 : n ≤ 5) :
    Calls Try.prog 33 #[.pointer (some ⟨k, 0, none⟩), .int .i64 (n : Int)] w fun e w' =>
      ∃ (u : Value) (xs : List Int), e = .returned u ∧ OwnI 3 w' w.heap.size w'.heap.size u xs ∧ permOk xs = true ∧ xs.length = n ∧ Cur w' k ∧ Frm k (k + 1) w w' := by
  have Hc := Lib.hid h
  have hk := h.lt
  clear h
  go_enter Try.func33, Try.ntmps33
  go_wp2_with fail
  go_loopg [5, 6] n (fun g s5 s6 wr => ∃ (i : Nat) (cs : List Nat), i ≤ n ∧ g = n - i ∧ s6 = .int .i64 i ∧ cs.length = i ∧ Hid (∀ j, j < i → cs.getD j 0 < n - j) ∧ Hid (OwnI 3 wr w.heap.size wr.heap.size s5 (cs.map Int.ofNat)) ∧ Hid (Cur wr k) ∧ Hid (Frm k (k + 1) w wr))
  case atStart =>
    refine ⟨0, [], Nat.zero_le _, rfl, rfl, rfl, fun j hj => absurd hj (Nat.not_lt_zero _), ?_, Hc.out.below (below_alloc w _), Frm.of_below (below_alloc w _) _ _⟩
    exact OwnF.ints ((OwnF.made0 w 3 (iv [])).mono (Nat.le_refl _) (by simp))
  case round =>
    obtain ⟨i, cs, hi, rfl, rfl, hcl, hcd, ho, hcu, hf⟩ := hrel
    have hsr := hf.out.size
    by_cases hlt : i < n
    · have hlt2 : (i : Int) < (n : Int) := by omega
      have hsub : (n : Int) - (i : Int) = ((n - i : Nat) : Int) := by omega
      have Hsub := Lib.hid hsub
      obtain ⟨p5, k5, rfl, _, _⟩ := ho.out.shape
      have hofn := ho.out.fn
      have hml : (cs.map Int.ofNat).length = i := by rw [List.length_map, hcl]
      rw [hml] at hofn ⊢
      have Ho := Lib.hid hofn
      have Hml := Lib.hid hml
      have Hcl := Lib.hid hcl
      have Hcd := Lib.hid hcd.out
      have Hcu := Lib.hid hcu.out
      have Hf := Lib.hid hf.out
      have Hb1 := Lib.hid (show i + 1 ≤ maxLen by unfold maxLen; omega)
      have Hb2 := Lib.hid (show (i + 1) * 8 ≤ 140737488355328 by omega)
      clear hsub ho hofn hml hcl hcd hcu hf
      go_wp2_with fail
      rw [Hsub.out]
      refine (l1Below_any k (n - i) _ Hcu.out (by omega) (by omega)).mono ?_
      rintro e w1 ⟨x, rfl, hx, hc1, hf1⟩
      have hs1 := hf1.size
      have Ho1 := Lib.hid (Ho.out.frm hf1 (Or.inr (by omega)))
      have Hc1 := Lib.hid hc1
      have Hf1 := Lib.hid (Hf.out.trans hf1)
      clear hc1 hf1
      go_wp2_with (at_builtin; go_must (refine wpList_append_F rfl (.tmp 13) (.tmp 19) 24 rfl 3 (.int .i64 0) 8 Try.underlying24 info_int rfl w.heap.size wr.heap.size _ i (iv (cs.map Int.ofNat)) rfl (Ho1.out.below (below_alloc w1 _)) (by rw [size_alloc]; omega) (by rw [size_alloc]; omega) _ 1 _ rfl (rd_one _ _ _ rfl) (fun j _ => rfl) Hb1.out Hb2.out ?_; intro v2 w2 ho2 hg2))
      go_roundg (n - (i + 1))
      case measure => omega
      case rel =>
        have hbx : Below w.heap.size w1 w2 := ((below_alloc w1 _).mono (by omega)).trans (grownBy_below hg2 Ho1.out.blocks (Nat.le_refl _) (by rw [size_alloc]; omega))
        refine ⟨i + 1, cs ++ [x], by omega, rfl, by go_num, by rw [List.length_append, Hcl.out]; rfl, fun j hj => ?_, ?_, Hc1.out.keepB hbx hk, Hf1.out.thenB hbx (Nat.le_refl _)⟩
        · by_cases e : j < i
          · have := Hcd.out j e
            rwa [List.getD_eq_getElem?_getD, List.getElem?_append_left (by rw [Hcl.out]; exact e), ← List.getD_eq_getElem?_getD]
          · obtain rfl : j = i := by omega
            rw [List.getD_eq_getElem?_getD, List.getElem?_append_right (by rw [Hcl.out]; exact Nat.le_refl _), Hcl.out]
            simpa using hx
        · rw [List.map_append]
          exact OwnI.snoc1 (by rw [Hml.out]; exact ho2)
    · obtain rfl : i = n := by omega
      have hlt2 : ¬ (i : Int) < (i : Int) := by omega
      obtain ⟨p5, k5, rfl, _, _⟩ := ho.out.shape
      have hoi := ho.out.ints
      have hml : (cs.map Int.ofNat).length = i := by rw [List.length_map, hcl]
      rw [hml] at hoi ⊢
      have Ho := Lib.hid hoi
      have Hcl := Lib.hid hcl
      have Hcd := Lib.hid hcd.out
      have Hcu := Lib.hid hcu.out
      have Hf := Lib.hid hf.out
      clear ho hcl hcd hcu hf hoi hml
      go_wp2_with fail
      refine (specDecode_any _ cs _ Ho.out (by rw [Hcl.out]; omega) (fun x hx => ?_)).mono ?_
      · obtain ⟨j, hj, rfl⟩ := List.mem_iff_getElem.1 hx
        have := Hcd.out j (by rw [← Hcl.out]; exact hj)
        rw [List.getD_eq_getElem?_getD, List.getElem?_eq_getElem hj] at this
        simp at this
        omega
      · rintro e w1 ⟨u, rfl, ho1, hb1⟩
        obtain ⟨g1, g2⟩ := decL_ok h1 h5 cs Hcl.out Hcd.out
        rw [Hcl.out] at ho1
        have G1 := Lib.hid g1
        have G2 := Lib.hid g2
        have Ho1 := Lib.hid ho1
        have Hb1 := Lib.hid hb1
        clear g1 g2 ho1 hb1
        go_wp2_with fail
        go_ret
        exact ⟨u, _, rfl, Ho1.out.mono hsr (Nat.le_refl _), G1.out, G2.out, Hcu.out.below Hb1.out, Hf.out.thenB Hb1.out hsr⟩

/-- the identity of n -/
def idL (n : Nat) : List Int := (List.range n).map fun (i : Nat) => (i : Int)
theorem idL_length (n : Nat) : (idL n).length = n := by simp [idL]
theorem idL_getD {n i : Nat} (h : i < n) : (idL n).getD i 0 = i := by simp [idL, List.getD_eq_getElem?_getD, h]
theorem idL_succ (n : Nat) : idL (n + 1) = idL n ++ [(n : Int)] := by simp [idL, List.range_succ]
theorem idL_ok {n : Nat} (h1 : 1 ≤ n) (h7 : n ≤ 7) : permOk (idL n) = true := by
  have : n = 1 ∨ n = 2 ∨ n = 3 ∨ n = 4 ∨ n = 5 ∨ n = 6 ∨ n = 7 := by omega
  rcases this with rfl | rfl | rfl | rfl | rfl | rfl | rfl <;> decide

set_option maxRecDepth 100000 in
set_option maxHeartbeats 2000000 in
theorem specIdentity_any (n : Nat) (w : World) (h1 : 1 ≤ n) (h7 : n ≤ 7) :
    Calls Try.prog 74 #[.int .i64 (n : Int)] w (RetI w (idL n)) := by
  have hin : Hid ((1 : Int) ≤ n ∧ (n : Int) ≤ 7) := ⟨by omega, by omega⟩
  go_enter Try.func74, Try.ntmps74
  go_wp2_with fail
  refine (l1In_yes _ _ _ _ hin.out).mono ?_
  rintro e w' ⟨rfl, rfl⟩
  go_wp2_with fail
  go_loopg [3, 4] n (fun g s3 s4 wr => ∃ i : Nat, i ≤ n ∧ g = n - i ∧ s4 = .int .i64 i ∧ Hid (Below w.heap.size w wr) ∧ Hid (OwnI 3 wr w.heap.size wr.heap.size s3 (idL i)))
  case atStart =>
    refine ⟨0, Nat.zero_le _, rfl, rfl, below_alloc w _, ?_⟩
    exact OwnF.ints ((OwnF.made0 w 3 (iv [])).mono (Nat.le_refl _) (by simp))
  case round =>
    obtain ⟨i, hi, rfl, rfl, hb, ho⟩ := hrel
    have hsr := hb.out.size
    by_cases hlt : i < n
    · have hlt2 : (i : Int) < (n : Int) := by omega
      obtain ⟨p5, k5, rfl, _, _⟩ := ho.out.shape
      have hofn := ho.out.fn
      rw [idL_length] at hofn ⊢
      have Ho := Lib.hid hofn
      have Hb := Lib.hid hb.out
      have Hb1 := Lib.hid (show i + 1 ≤ maxLen by unfold maxLen; omega)
      have Hb2 := Lib.hid (show (i + 1) * 8 ≤ 140737488355328 by omega)
      clear ho hofn hb
      go_wp2_with (at_builtin; go_must (refine wpList_append_F rfl (.tmp 14) (.tmp 16) 24 rfl 3 (.int .i64 0) 8 Try.underlying24 info_int rfl w.heap.size wr.heap.size _ i (iv (idL i)) rfl (Ho.out.below (below_alloc wr _)) (by rw [size_alloc]; omega) (by rw [size_alloc]; omega) _ 1 _ rfl (rd_one _ _ _ rfl) (fun j _ => rfl) Hb1.out Hb2.out ?_; intro v2 w2 ho2 hg2))
      go_roundg (n - (i + 1))
      case measure => omega
      case rel =>
        have hbx : Below w.heap.size wr w2 := ((below_alloc wr _).mono (by omega)).trans (grownBy_below hg2 Ho.out.blocks (Nat.le_refl _) (by rw [size_alloc]; omega))
        refine ⟨i + 1, by omega, rfl, by go_num, Hb.out.trans hbx, ?_⟩
        rw [idL_succ]
        exact OwnI.snoc1 (by rw [idL_length]; exact ho2)
    · obtain rfl : i = n := by omega
      have hlt2 : ¬ (i : Int) < (i : Int) := by omega
      have Ho := Lib.hid ho.out
      have Hb := Lib.hid hb.out
      clear ho hb
      go_wp2_with fail
      go_ret
      exact ⟨_, rfl, Ho.out, Hb.out⟩

end Go.Proofs.Ytoodgbflaaabmaa

namespace Go.Proofs.Ytoodgbflaaabmaa
set_option linter.all false
open Go.RowKit

/-- the rank is told by what is spanned -/
theorem HasRank.same {P : Int} {C R R' n : Nat} {M0 M1 : Nat → Nat → Int} (h : HasRank P C R M0 n) (hs : SameSp P C R' M1 R M0) : HasRank P C R' M1 n := by
  obtain ⟨M, q, h1, h2, h3, h4⟩ := h
  exact ⟨M, q, h1, h2, h3, hs.trans h4⟩
theorem HasRank.zero (P : Int) (C : Nat) (M0 : Nat → Nat → Int) : HasRank P C 0 M0 0 :=
  ⟨M0, fun i => i, ⟨fun i hi => absurd hi (Nat.not_lt_zero _), fun i k hi => absurd hi (Nat.not_lt_zero _), fun i j hi => absurd hi (Nat.not_lt_zero _)⟩,
    fun i k _ hk => absurd hk (Nat.not_lt_zero _), fun i c hi => absurd hi (Nat.not_lt_zero _), .refl⟩
theorem HasRank.congr {P : Int} {C R n : Nat} {M0 M1 : Nat → Nat → Int} (h : HasRank P C R M0 n) (e : ∀ i j, i < R → j < C → M1 i j = M0 i j) : HasRank P C R M1 n :=
  h.same (SameSp.of_eqv fun i hi => .of_eq fun j hj => e i j hi hj)

/-- an order in which numbers ascend -/
theorem order_ex (n : Nat) (q : Nat → Nat) (hq : ∀ i k, i < n → k < n → q i = q k → i = k) :
    ∃ τ σ : Nat → Nat, (∀ i, i < n → τ i < n) ∧ (∀ i, i < n → σ i < n ∧ τ (σ i) = i) ∧ (∀ i k, i < n → k < n → τ i = τ k → i = k) ∧ ∀ i k, i < k → k < n → q (τ i) < q (τ k) := by
  let le : Nat → Nat → Bool := fun a b => decide (q a ≤ q b)
  let l := (List.range n).mergeSort le
  have hp : l.Perm (List.range n) := List.mergeSort_perm _ _
  have hs : l.Pairwise fun a b => le a b = true := List.pairwise_mergeSort (fun a b c h1 h2 => by simp [le] at *; omega) (fun a b => by simp [le]; omega) _
  have hlen : l.length = n := by rw [hp.length_eq]; simp
  have hnd : l.Nodup := hp.nodup_iff.2 List.nodup_range
  have hget : ∀ i, i < n → l.getD i 0 ∈ l := fun i hi => by
    rw [List.getD_eq_getElem?_getD, List.getElem?_eq_getElem (by omega)]
    exact List.getElem_mem _
  have hlt : ∀ i, i < n → l.getD i 0 < n := fun i hi => by
    have := hp.mem_iff.1 (hget i hi)
    simpa using this
  have hinj : ∀ i k, i < n → k < n → l.getD i 0 = l.getD k 0 → i = k := fun i k hi hk e => by
    rw [List.getD_eq_getElem?_getD, List.getD_eq_getElem?_getD, List.getElem?_eq_getElem (by omega), List.getElem?_eq_getElem (by omega)] at e
    exact (List.getElem_inj hnd).1 (by simpa using e)
  have hsur : ∀ i, i < n → ∃ k, k < n ∧ l.getD k 0 = i := fun i hi => by
    have : i ∈ l := hp.mem_iff.2 (by simpa using hi)
    obtain ⟨k, hk, e⟩ := List.mem_iff_getElem.1 this
    exact ⟨k, by omega, by rw [List.getD_eq_getElem?_getD, List.getElem?_eq_getElem hk, Option.getD_some, e]⟩
  refine ⟨fun i => l.getD i 0, fun i => if h : i < n then Classical.choose (hsur i h) else 0, hlt, fun i hi => ?_, hinj, fun i k hik hk => ?_⟩
  · simp only [hi, dif_pos]
    exact Classical.choose_spec (hsur i hi)
  · have h1 := List.pairwise_iff_getElem.1 hs i k (by omega) (by omega) hik
    have h2 : q (l.getD i 0) ≤ q (l.getD k 0) := by
      rw [List.getD_eq_getElem?_getD, List.getD_eq_getElem?_getD, List.getElem?_eq_getElem (by omega), List.getElem?_eq_getElem (by omega)]
      exact of_decide_eq_true h1
    rcases Nat.lt_or_ge (q (l.getD i 0)) (q (l.getD k 0)) with h | h
    · exact h
    · have := hinj i k (by omega) hk (hq _ _ (hlt i (by omega)) (hlt k hk) (by omega))
      omega

/-- rows with columns of their own, put in order -/
theorem Red.sort {P : Int} {C n : Nat} {M : Nat → Nat → Int} {q : Nat → Nat} (h : Red P C n M q) (hr : ∀ i c, i < n → c < C → 0 ≤ M i c ∧ M i c < P) : ∃ M' q', IsRed P C n M n M' q' := by
  have hinj : ∀ i k, i < n → k < n → q i = q k → i = k := fun i k hi hk e => by
    have a := h.unit i k hi hk
    rw [← e, h.unit i i hi hi, if_pos rfl] at a
    by_cases e2 : i = k
    · exact e2
    · rw [if_neg e2] at a; cases a
  obtain ⟨τ, σ, h1, h2, h3, h4⟩ := order_ex n q hinj
  refine ⟨fun i => M (τ i), fun i => q (τ i), ⟨fun i hi => h.lt _ (h1 i hi), fun i k hi hk => ?_, fun i j hi hj => h.lead _ j (h1 i hi) hj⟩, h4, fun i c hi hc => hr _ c (h1 i hi) hc, ?_⟩
  · rw [h.unit _ _ (h1 i hi) (h1 k hk)]
    by_cases e : i = k
    · subst e; simp
    · rw [if_neg e, if_neg fun e2 => e (h3 i k hi hk e2)]
  · refine SameSp.perm σ τ (fun i hi => ⟨(h2 i hi).1, ?_⟩) (fun i hi => ⟨h1 i hi, .refl _ _ _⟩)
    rw [(h2 i hi).2]; exact .refl _ _ _

theorem El.all {p : Int} {C : Nat} {out : List (List Int)} {q : Nat → Nat} {r : List Int} (hp : 2 ≤ p) (hr : Red p C out.length (mt out) q) (h : RowOk p C r) : ∀ t, t ≤ out.length → ∃ cur, El p C out q r cur t
  | 0, _ => ⟨r, El.start h⟩
  | t + 1, ht => by
    obtain ⟨cur, hc⟩ := El.all hp hr h t (by omega)
    exact ⟨_, hc.step hp hr (by omega)⟩

/-- rows of functions as lists -/
def rowsL (n C : Nat) (M : Nat → Nat → Int) : List (List Int) := (List.range n).map fun i => (List.range C).map (M i)
theorem rowsL_length (n C : Nat) (M : Nat → Nat → Int) : (rowsL n C M).length = n := by simp [rowsL]
theorem rowsL_mt {n C i j : Nat} {M : Nat → Nat → Int} (hi : i < n) (hj : j < C) : mt (rowsL n C M) i j = M i j := by
  simp [mt, rowsL, List.getD_eq_getElem?_getD, hi, hj]
theorem rowL_ok {P : Int} {C : Nat} {r : Nat → Int} (hP : 0 < P) (hr : ∀ j, j < C → 0 ≤ r j ∧ r j < P) : RowOk P C ((List.range C).map r) := by
  refine ⟨by simp, fun j => ?_⟩
  by_cases hj : j < C
  · simpa [List.getD_eq_getElem?_getD, hj] using hr j hj
  · rw [getD_out (by simp; omega)]; omega
theorem rowsL_ok {P : Int} {n C : Nat} {M : Nat → Nat → Int} (hP : 0 < P) (hr : ∀ i j, i < n → j < C → 0 ≤ M i j ∧ M i j < P) : RowsOk P C (rowsL n C M) := fun i hi => by
  rw [rowsL_length] at hi
  have e : (rowsL n C M).getD i [] = (List.range C).map (M i) := by simp [rowsL, List.getD_eq_getElem?_getD, hi]
  rw [e]
  exact rowL_ok hP (hr i · hi)

/-- a matrix with a row behind it -/
def snocM (n : Nat) (M : Nat → Nat → Int) (r : Nat → Int) (i : Nat) : Nat → Int := if i < n then M i else r

/-- with a row more the rank is the same or one more -/
theorem HasRank.more {P : Int} {C n k : Nat} {M0 : Nat → Nat → Int} (hp : primeOk P = true) (h : HasRank P C n M0 k) (r : Nat → Int) (hr : ∀ j, j < C → 0 ≤ r j ∧ r j < P) :
    ∃ k', (k' = k ∨ k' = k + 1) ∧ HasRank P C (n + 1) (snocM n M0 r) k' := by
  obtain ⟨hP2, hP7⟩ := primeOk_range hp
  obtain ⟨M, q, h1, h2, h3, h4⟩ := h
  obtain ⟨out, hout⟩ : ∃ out, out = rowsL k C M := ⟨_, rfl⟩
  have hl : out.length = k := by rw [hout, rowsL_length]
  have hm : ∀ i j, i < k → j < C → mt out i j = M i j := fun i j hi hj => by rw [hout]; exact rowsL_mt hi hj
  have hred : Red P C out.length (mt out) q := by
    rw [hl]
    refine ⟨h1.lt, fun i m hi hm' => ?_, fun i j hi hj => ?_⟩
    · rw [hm i _ hi (h1.lt m hm')]; exact h1.unit i m hi hm'
    · have := h1.lt i hi
      rw [hm i j hi (by omega)]; exact h1.lead i j hi hj
  have hok : RowsOk P C out := by rw [hout]; exact rowsL_ok (by omega) h3
  have hrow : RowOk P C ((List.range C).map r) := rowL_ok (by omega) hr
  have hsp : SameSp P C (n + 1) (snocM n M0 r) (out.length + 1) (mt (out ++ [(List.range C).map r])) := by
    have e0 : SameSp P C n M0 out.length (mt out) := by
      rw [hl]
      exact h4.trans (SameSp.of_eqv fun i hi => .of_eq fun j hj => (hm i j hi hj).symm)
    have e1 : SameSp P C n (snocM n M0 r) out.length (mt out) := (SameSp.of_eqv fun i hi => by unfold snocM; rw [if_pos hi]; exact .refl _ _ _).trans e0
    refine SameSp.snoc e1 ?_ fun i hi => by rw [mt_snoc_lt hi]; exact .refl _ _ _
    rw [mt_snoc_at]
    unfold snocM
    rw [if_neg (Nat.lt_irrefl _)]
    exact .of_eq fun j hj => by simp [List.getD_eq_getElem?_getD, hj]
  generalize (List.range C).map r = rl at *
  obtain ⟨cur, hel⟩ := El.all (r := rl) hP2 hred hrow out.length (Nat.le_refl _)
  have hcl := hel.ok.1
  rcases pivL_cases cur with ⟨_, h0⟩ | ⟨K, _, hK, hKn, hK0⟩
  · refine ⟨k, .inl rfl, ?_⟩
    have := hsp.trans (hel.none h0)
    obtain ⟨M', q', hs⟩ := hred.sort fun i c hi hc => by rw [hl] at hi; rw [hm i c hi hc]; exact h3 i c hi hc
    rw [hl] at hs this
    exact HasRank.same ⟨M', q', hs⟩ this
  · refine ⟨k + 1, .inr rfl, ?_⟩
    have hKr := hel.ok.2 K
    obtain ⟨s, hs0, hs1, hs2⟩ := inv_ex (p := P) (x := cur.getD K 0) hp (by omega) (by omega)
    obtain ⟨t1, t2, t3⟩ := hel.more hP2 hred hok (by omega) hK0 hKn hs2
    have hlen : (clearL P K out (scaleL P s cur) out.length ++ [scaleL P s cur]).length = out.length + 1 := by simp [clearL_length]
    obtain ⟨M', q', hs⟩ := t1.sort fun i c hi hc => (t2 i (by omega)).2 c
    have hk : out.length + 1 = k + 1 := by omega
    rw [hk] at hs t3 hsp
    exact HasRank.same ⟨M', q', hs⟩ (hsp.trans t3)

/-- the ranks of the first rows -/
theorem ranks_ex {P : Int} {C : Nat} {M : Nat → Nat → Int} (hp : primeOk P = true) (R : Nat) (hr : ∀ i j, i < R → j < C → 0 ≤ M i j ∧ M i j < P) :
    ∃ f : Nat → Nat, f 0 = 0 ∧ (∀ n, n ≤ R → HasRank P C n M (f n)) ∧ ∀ n, n < R → f (n + 1) = f n ∨ f (n + 1) = f n + 1 := by
  obtain ⟨hP2, hP7⟩ := primeOk_range hp
  have hex : ∀ n, n ≤ R → ∃ k, HasRank P C n M k := by
    intro n
    induction n with
    | zero => exact fun _ => ⟨0, .zero _ _ _⟩
    | succ n ih =>
      intro hn
      obtain ⟨k, hk⟩ := ih (by omega)
      obtain ⟨k', _, hk'⟩ := hk.more hp (M n) (hr n · (by omega))
      exact ⟨k', hk'.congr fun i j hi hj => by unfold snocM; split; rfl; rw [show i = n by omega]⟩
  refine ⟨fun n => if h : n ≤ R then Classical.choose (hex n h) else 0, ?_, fun n hn => ?_, fun n hn => ?_⟩
  · simp only [Nat.zero_le, dif_pos]
    exact (Classical.choose_spec (hex 0 (Nat.zero_le _))).one hP2 (.zero _ _ _)
  · simp only [hn, dif_pos]
    exact Classical.choose_spec (hex n hn)
  · simp only [show n ≤ R by omega, show n + 1 ≤ R by omega, dif_pos]
    have h1 := Classical.choose_spec (hex n (by omega))
    have h2 := Classical.choose_spec (hex (n + 1) (by omega))
    generalize Classical.choose (hex n (by omega)) = a at *
    generalize Classical.choose (hex (n + 1) (by omega)) = b at *
    obtain ⟨k', hk, hk'⟩ := h1.more hp (M n) (hr n · hn)
    have := (hk'.congr (M1 := M) fun i j hi hj => by unfold snocM; split; rfl; rw [show i = n by omega]).one hP2 h2
    omega
theorem steps_le {f : Nat → Nat} {R : Nat} (h : ∀ n, n < R → f (n + 1) = f n ∨ f (n + 1) = f n + 1) : ∀ d n, n + d ≤ R → f n ≤ f (n + d) ∧ f (n + d) ≤ f n + d
  | 0, n, _ => ⟨Nat.le_refl _, Nat.le_refl _⟩
  | d + 1, n, hd => by
    have a := steps_le h d n (by omega)
    have b := h (n + d) (by omega)
    have e : n + (d + 1) = n + d + 1 := by omega
    rw [e]
    omega
theorem HasRank.le {P : Int} {C R k : Nat} {M : Nat → Nat → Int} (hp : primeOk P = true) (hr : ∀ i j, i < R → j < C → 0 ≤ M i j ∧ M i j < P) (h : HasRank P C R M k) : k ≤ R := by
  obtain ⟨f, f0, f1, f2⟩ := ranks_ex hp R hr
  have := h.one (primeOk_range hp).1 (f1 R (Nat.le_refl _))
  have a := steps_le f2 R 0 (by omega)
  rw [Nat.zero_add] at a
  omega
theorem asc_bound {n C : Nat} {q : Nat → Nat} (h : ∀ i k, i < k → k < n → q i < q k) (hl : ∀ i, i < n → q i < C) : n ≤ C := by
  have : ∀ i, i < n → i ≤ q i := by
    intro i
    induction i with
    | zero => exact fun _ => Nat.zero_le _
    | succ i ih =>
      intro hi
      have a := ih (by omega)
      have b := h i (i + 1) (by omega) hi
      omega
  rcases Nat.eq_zero_or_pos n with e | e
  · omega
  · have a := this (n - 1) (by omega)
    have b := hl (n - 1) (by omega)
    omega
theorem HasRank.leC {P : Int} {C R k : Nat} {M : Nat → Nat → Int} (h : HasRank P C R M k) : k ≤ C := by
  obtain ⟨M', q, h1, h2, _⟩ := h
  exact asc_bound h2 h1.lt
/-- where the rank is the number of rows, so it is for the first of them -/
theorem HasRank.part {P : Int} {C R i : Nat} {M : Nat → Nat → Int} (hp : primeOk P = true) (hr : ∀ i j, i < R → j < C → 0 ≤ M i j ∧ M i j < P) (h : HasRank P C R M R) (hi : i ≤ R) : HasRank P C i M i := by
  obtain ⟨f, f0, f1, f2⟩ := ranks_ex hp R hr
  have e := h.one (primeOk_range hp).1 (f1 R (Nat.le_refl _))
  have a := steps_le f2 i 0 (by omega)
  have b := steps_le f2 (R - i) i (by omega)
  rw [Nat.zero_add] at a
  rw [show i + (R - i) = R by omega] at b
  have := f1 i hi
  rwa [show f i = i by omega] at this

/-- the first i rows of one, and the first j rows of another one behind them -/
def stackM (i : Nat) (A B : Nat → Nat → Int) (t : Nat) : Nat → Int := if t < i then A t else B (t - i)
theorem stackM_lt {i t : Nat} {A B : Nat → Nat → Int} (h : t < i) : stackM i A B t = A t := by unfold stackM; rw [if_pos h]
theorem stackM_ge {i t : Nat} {A B : Nat → Nat → Int} (h : ¬ t < i) : stackM i A B t = B (t - i) := by unfold stackM; rw [if_neg h]
theorem snocM_lt {n t : Nat} {M : Nat → Nat → Int} {r : Nat → Int} (h : t < n) : snocM n M r t = M t := by unfold snocM; rw [if_pos h]
theorem snocM_at (n : Nat) (M : Nat → Nat → Int) (r : Nat → Int) : snocM n M r n = r := by unfold snocM; rw [if_neg (Nat.lt_irrefl _)]
theorem stackM_rng {P : Int} {C i j : Nat} {A B : Nat → Nat → Int} (ha : ∀ t c, t < i → c < C → 0 ≤ A t c ∧ A t c < P) (hb : ∀ t c, t < j → c < C → 0 ≤ B t c ∧ B t c < P) :
    ∀ t c, t < i + j → c < C → 0 ≤ stackM i A B t c ∧ stackM i A B t c < P := fun t c ht hc => by
  unfold stackM
  split
  · exact ha t c (by assumption) hc
  · exact hb _ c (by omega) hc
/-- a row more in the first one: the rank is the same or one more -/
theorem stack_step {P : Int} {C i j k k' : Nat} {A B : Nat → Nat → Int} (hp : primeOk P = true) (hr : ∀ c, c < C → 0 ≤ A i c ∧ A i c < P)
    (h : HasRank P C (i + j) (stackM i A B) k) (h' : HasRank P C (i + 1 + j) (stackM (i + 1) A B) k') : k' = k ∨ k' = k + 1 := by
  obtain ⟨m, hm, h2⟩ := h.more hp (A i) hr
  have hs : SameSp P C (i + 1 + j) (stackM (i + 1) A B) (i + j + 1) (snocM (i + j) (stackM i A B) (A i)) := by
    refine SameSp.perm (fun t => if t < i then t else if t = i then i + j else t - 1) (fun t => if t < i then t else if t = i + j then i else t + 1) (fun t ht => ?_) (fun t ht => ?_)
    · by_cases h1 : t < i
      · simp only [h1, if_true]
        rw [stackM_lt (show t < i + 1 by omega), snocM_lt (show t < i + j by omega), stackM_lt h1]
        exact ⟨by omega, .refl _ _ _⟩
      · by_cases h2 : t = i
        · subst h2
          simp only [h1, if_false, if_true]
          rw [stackM_lt (show t < t + 1 by omega), snocM_at]
          exact ⟨by omega, .refl _ _ _⟩
        · simp only [h1, h2, if_false]
          rw [stackM_ge (show ¬ t < i + 1 by omega), snocM_lt (show t - 1 < i + j by omega), stackM_ge (show ¬ t - 1 < i by omega), show t - (i + 1) = t - 1 - i by omega]
          exact ⟨by omega, .refl _ _ _⟩
    · by_cases h1 : t < i
      · simp only [h1, if_true]
        rw [snocM_lt (show t < i + j by omega), stackM_lt h1, stackM_lt (show t < i + 1 by omega)]
        exact ⟨by omega, .refl _ _ _⟩
      · by_cases h2 : t = i + j
        · subst h2
          simp only [h1, if_false, if_true]
          rw [snocM_at, stackM_lt (show i < i + 1 by omega)]
          exact ⟨by omega, .refl _ _ _⟩
        · simp only [h1, h2, if_false]
          rw [snocM_lt (show t < i + j by omega), stackM_ge h1, stackM_ge (show ¬ t + 1 < i + 1 by omega), show t + 1 - (i + 1) = t - i by omega]
          exact ⟨by omega, .refl _ _ _⟩
  have := h'.one (primeOk_range hp).1 (h2.same hs)
  omega

end Go.Proofs.Ytoodgbflaaabmaa

namespace Go.Proofs.Ytoodgbflaaabmaa
set_option linter.all false

theorem Sp.narrow {p : Int} {C C' n : Nat} {M : Nat → Nat → Int} {v : Nat → Int} (h : Sp p C n M v) (hC : C' ≤ C) : Sp p C' n M v := by
  induction h with
  | zero => exact .zero
  | add c i hi _ ih => exact .add c i hi ih
  | eqv _ e ih => exact ih.eqv fun j hj => e j (by omega)
theorem Sp.mono {p : Int} {C n n' : Nat} {M : Nat → Nat → Int} {v : Nat → Int} (h : Sp p C n M v) (hn : n ≤ n') : Sp p C n' M v :=
  h.trans fun i hi => .row (by omega)
theorem Sp.congr {p : Int} {C n : Nat} {M M' : Nat → Nat → Int} {v : Nat → Int} (h : Sp p C n M v) (e : ∀ i, i < n → Eqv p C (M i) (M' i)) : Sp p C n M' v :=
  h.trans fun i hi => (Sp.row hi).eqv (e i hi).symm
theorem Sp.sub {p : Int} {C n : Nat} {M : Nat → Nat → Int} {u v : Nat → Int} (h : Sp p C n M u) (h2 : Sp p C n M v) : Sp p C n M (fun j => u j - v j) :=
  (h.comb (-1) h2).eqv (.of_eq fun j _ => by omega)
/-- a sum over rows, with numbers before them -/
theorem Sp.coef {p : Int} {C n : Nat} {M : Nat → Nat → Int} {v : Nat → Int} (h : Sp p C n M v) : ∃ c : Nat → Int, ∀ j, j < C → p ∣ v j - sm n (fun i => c i * M i j) := by
  induction h with
  | zero => exact ⟨fun _ => 0, fun j _ => by rw [sm_congr (g := fun _ => 0) (fun i _ => by simp), sm_zero]; simp⟩
  | @add v c i hi _ ih =>
    obtain ⟨d, hd⟩ := ih
    refine ⟨fun k => d k + c * if i = k then 1 else 0, fun j hj => ?_⟩
    have e : sm n (fun k => (d k + c * if i = k then 1 else 0) * M k j) = sm n (fun k => d k * M k j) + c * M i j := by
      rw [← sm_one n i hi c (fun k => M k j), ← sm_add]
      exact sm_congr fun k _ => by rw [Int.add_mul]
    rw [e]
    have := hd j hj
    rwa [show ∀ a b x : Int, a + x - (b + x) = a - b by intros; omega]
  | eqv _ e ih =>
    obtain ⟨d, hd⟩ := ih
    refine ⟨d, fun j hj => ?_⟩
    have := Int.dvd_sub (hd j hj) (e j hj)
    rwa [show ∀ a b x : Int, a - x - (a - b) = b - x by intros; omega] at this
theorem sp_sm {p : Int} {C n m : Nat} {M : Nat → Nat → Int} (c : Nat → Int) (hm : m ≤ n) : Sp p C n M (fun j => sm m (fun i => c i * M i j)) := by
  induction m with
  | zero => exact .zero
  | succ m ih => exact .add (c m) m (by omega) (ih (by omega))
theorem Sp.of_coef {p : Int} {C n : Nat} {M : Nat → Nat → Int} {v : Nat → Int} (c : Nat → Int) (h : ∀ j, j < C → p ∣ v j - sm n (fun i => c i * M i j)) : Sp p C n M v :=
  (sp_sm c (Nat.le_refl n)).eqv fun j hj => by
    have := Int.dvd_neg.2 (h j hj)
    rwa [Int.neg_sub] at this
theorem sm_split (a b : Nat) (f : Nat → Int) : sm (a + b) f = sm a f + sm b (fun i => f (a + i)) := by
  induction b with
  | zero => simp [sm]
  | succ b ih => rw [← Nat.add_assoc, sm, sm, ih]; omega

/-- the rows are independent -/
def Indep (p : Int) (C n : Nat) (M : Nat → Nat → Int) : Prop := ∀ c : Nat → Int, (∀ j, j < C → p ∣ sm n (fun i => c i * M i j)) → ∀ i, i < n → p ∣ c i
theorem Indep.part {p : Int} {C n m : Nat} {M : Nat → Nat → Int} (h : Indep p C n M) (hm : m ≤ n) : Indep p C m M := fun c hc i hi => by
  have := h (fun k => if k < m then c k else 0) (fun j hj => ?_) i (by omega)
  · simpa [hi] using this
  · obtain ⟨d, rfl⟩ : ∃ d, n = m + d := ⟨n - m, by omega⟩
    have e1 : sm d (fun k => (if m + k < m then c (m + k) else 0) * M (m + k) j) = 0 := (sm_congr (g := fun _ => 0) fun k _ => by simp [show ¬ m + k < m by omega]).trans (sm_zero d)
    have e2 : sm m (fun k => (if k < m then c k else 0) * M k j) = sm m (fun k => c k * M k j) := sm_congr fun k hk => by simp [hk]
    rw [sm_split, e1, e2, Int.add_zero]
    exact hc j hj
/-- a reduced form's rows are -/
theorem Red.indep {p : Int} {C n : Nat} {M : Nat → Nat → Int} {q : Nat → Nat} (h : Red p C n M q) : Indep p C n M := fun c hc i hi => by
  have := hc (q i) (h.lt i hi)
  rw [sm_congr (g := fun k => (c i * if i = k then 1 else 0) * (fun _ => 1) k) (fun k hk => ?_), sm_one n i hi] at this
  · simpa using this
  · rw [h.unit k i hk hi]
    by_cases e : i = k
    · subst e; simp
    · simp [e, show ¬ k = i from fun x => e x.symm]

/-- ascending from below n to below n': no more -/
theorem asc_into {n n' : Nat} {s : Nat → Nat} (h : ∀ i k, i < k → k < n → s i < s k) (hl : ∀ i, i < n → s i < n') : n ≤ n' := asc_bound h hl
theorem asc_same {n : Nat} {s : Nat → Nat} (h : ∀ i k, i < k → k < n → s i < s k) (hl : ∀ i, i < n → s i < n) : ∀ i, i < n → s i = i := by
  have lo : ∀ i, i < n → i ≤ s i := by
    intro i
    induction i with
    | zero => exact fun _ => Nat.zero_le _
    | succ i ih =>
      intro hi
      have a := ih (by omega)
      have b := h i (i + 1) (by omega) hi
      omega
  have hi' : ∀ d i, i < n → n - 1 - i = d → s i ≤ i := by
    intro d
    induction d with
    | zero => intro i hi e; have := hl i hi; omega
    | succ d ih =>
      intro i hi e
      have a := ih (i + 1) (by omega) (by omega)
      have b := h i (i + 1) (by omega) (by omega)
      omega
  intro i hi
  have := lo i hi
  have := hi' _ i hi rfl
  omega

/-- the columns of a span within another one -/
theorem red_cols {p : Int} {C n n' : Nat} {M M' : Nat → Nat → Int} {q q' : Nat → Nat} (hp : 2 ≤ p) (h : Red p C n M q) (h' : Red p C n' M' q') (ha : ∀ i k, i < k → k < n → q i < q k) (ha' : ∀ i k, i < k → k < n' → q' i < q' k)
    (hs : ∀ i, i < n' → Sp p C n M (M' i)) : ∃ s : Nat → Nat, (∀ k, k < n' → s k < n ∧ q (s k) = q' k) ∧ ∀ i k, i < k → k < n' → s i < s k := by
  have hc : ∀ k, ∃ i, k < n' → i < n ∧ q i = q' k := fun k => by
    by_cases hk : k < n'
    · obtain ⟨i, hi, e⟩ := Red.cols h h' hp hs hk
      exact ⟨i, fun _ => ⟨hi, e⟩⟩
    · exact ⟨0, fun x => absurd x hk⟩
  refine ⟨fun k => Classical.choose (hc k), fun k hk => Classical.choose_spec (hc k) hk, fun i k hik hk => ?_⟩
  have a := Classical.choose_spec (hc i) (by omega)
  have b := Classical.choose_spec (hc k) hk
  have := ha' i k hik hk
  rw [← a.2, ← b.2] at this
  show Classical.choose (hc i) < Classical.choose (hc k)
  generalize Classical.choose (hc i) = x at *
  generalize Classical.choose (hc k) = y at *
  rcases Nat.lt_or_ge x y with e | e
  · exact e
  · rcases Nat.lt_or_eq_of_le e with e | e
    · have := ha y x e a.1; omega
    · subst e; omega
/-- no greater rank -/
theorem IsRed.le {P : Int} {C R R' n n' : Nat} {M0 M1 M M' : Nat → Nat → Int} {q q' : Nat → Nat} (hP : 2 ≤ P) (h : IsRed P C R M0 n M q) (h' : IsRed P C R' M1 n' M' q') (hs : ∀ i, i < R' → Sp P C R M0 (M1 i)) : n' ≤ n := by
  have hs' : ∀ i, i < n' → Sp P C n M (M' i) := fun i hi => ((h'.2.2.2.2 i hi).trans hs).trans h.2.2.2.1
  obtain ⟨s, h1, h2⟩ := red_cols hP h.1 h'.1 h.2.1 h'.2.1 hs'
  exact asc_into h2 fun k hk => (h1 k hk).1
theorem HasRank.le_of_sub {P : Int} {C R R' n n' : Nat} {M0 M1 : Nat → Nat → Int} (hP : 2 ≤ P) (h : HasRank P C R M0 n) (h' : HasRank P C R' M1 n') (hs : ∀ i, i < R' → Sp P C R M0 (M1 i)) : n' ≤ n := by
  obtain ⟨M, q, h⟩ := h
  obtain ⟨M', q', h'⟩ := h'
  exact h.le hP h' hs
/-- a span within another one of the same rank is the same -/
theorem HasRank.same_of_sub {P : Int} {C R R' n : Nat} {M0 M1 : Nat → Nat → Int} (hP : 2 ≤ P) (h : HasRank P C R M0 n) (h' : HasRank P C R' M1 n) (hs : ∀ i, i < R' → Sp P C R M0 (M1 i)) : SameSp P C R' M1 R M0 := by
  obtain ⟨M, q, h⟩ := h
  obtain ⟨M', q', h'⟩ := h'
  have hs' : ∀ i, i < n → Sp P C n M (M' i) := fun i hi => ((h'.2.2.2.2 i hi).trans hs).trans h.2.2.2.1
  obtain ⟨s, h1, h2⟩ := red_cols hP h.1 h'.1 h.2.1 h'.2.1 hs'
  have h3 := asc_same h2 fun k hk => (h1 k hk).1
  have hq : ∀ k, k < n → q' k = q k := fun k hk => by have := (h1 k hk).2; rw [h3 k hk] at this; exact this.symm
  refine ⟨hs, fun i hi => ?_⟩
  -- a row of the greater one, less its part in the smaller one, has 0 at all columns
  have hrow : ∀ v, Sp P C n M v → Sp P C n M' v := fun v hv => by
    have hd : Sp P C n M (fun j => v j - sm n (fun i => v (q i) * M' i j)) := hv.sub ((sp_sm _ (Nat.le_refl n)).trans hs')
    have hz : ∀ k, k < n → P ∣ v (q k) - sm n (fun i => v (q i) * M' i (q k)) := fun k hk => by
      rw [sm_congr (g := fun i => (v (q k) * if k = i then 1 else 0) * (fun _ => 1) i) (fun i hi => ?_), sm_one n k hk]
      · simp
      · rw [← hq k hk, h'.1.unit i k hi hk]
        by_cases e : k = i
        · subst e; simp [hq k hk]
        · simp [e, show ¬ i = k from fun x => e x.symm]
    refine .of_coef (fun i => v (q i)) fun j hj => ?_
    have hco := h.1.coord hd j hj
    have : P ∣ sm n (fun i => (v (q i) - sm n (fun t => v (q t) * M' t (q i))) * M i j) := sm_dvd fun i hi => Int.dvd_mul_of_dvd_left (hz i hi)
    have := Int.dvd_add hco this
    rwa [Int.sub_add_cancel] at this
  exact (hrow _ (h.2.2.2.1 i hi)).trans h'.2.2.2.2
/-- independent rows are as many as the rank -/
theorem Indep.rank {P : Int} {C R : Nat} {M0 : Nat → Nat → Int} (hp : primeOk P = true) (hr : ∀ i j, i < R → j < C → 0 ≤ M0 i j ∧ M0 i j < P) (h : Indep P C R M0) : HasRank P C R M0 R := by
  obtain ⟨hP, _⟩ := primeOk_range hp
  obtain ⟨f, f0, f1, f2⟩ := ranks_ex hp R hr
  have h3 : ∀ n, n < R → f (n + 1) = f n + 1 := fun n hn => by
    rcases f2 n hn with e | e
    · exfalso
      have a := f1 n (by omega)
      have b := f1 (n + 1) hn
      rw [e] at b
      have hs := b.same_of_sub hP a fun i hi => .row (by omega)
      obtain ⟨c, hc⟩ := (hs.2 n (by omega)).coef
      have := h.part hn (fun k => if k = n then 1 else - c k) (fun j hj => ?_) n (by omega)
      · simp at this
        exact Red.not_dvd_one hP this
      · have := hc j hj
        rw [sm]
        simp only [if_true, Int.one_mul]
        rw [sm_congr (g := fun i => 0 - c i * M0 i j) (fun k hk => by rw [if_neg (by omega), Int.neg_mul]; omega), ← sm_sub, sm_zero]
        rwa [show ∀ a b : Int, 0 - a + b = b - a by intros; omega]
    · exact e
  have h4 : ∀ n, n ≤ R → f n = n := by
    intro n
    induction n with
    | zero => exact fun _ => f0
    | succ n ih => intro hn; rw [h3 n hn, ih (by omega)]
  have := f1 R (Nat.le_refl _)
  rwa [h4 R (Nat.le_refl _)] at this

end Go.Proofs.Ytoodgbflaaabmaa
