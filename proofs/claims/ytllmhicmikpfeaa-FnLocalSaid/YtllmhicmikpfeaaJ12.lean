/-
  One exponent of a key.
  Keys and exponents: l2Exp, l2Key.
  l2Divided: the divided difference of a list of terms.
  Divided differences of values: the braid of three. Plain.
  What divided differences do to the values of a polynomial, and what a change by multiples of a number does. Plain.
  Neighbours of permutations of at most five, and the divided differences along any way. Plain.
-/
import Derived.Test.YtllmhicmikpfeaaJ3
import Derived.Test.YtllmhicmikpfeaaJ10
import Derived.Test.YtllmhicmikpfeaaJ11
import Derived.Test.YtllmhicmikpfeaaJ1
import Derived.Test.YtllmhicmikpfeaaJ9
import Derived.Test.YtllmhicmikpfeaaJ5
namespace Go.Proofs.Ytllmhicmikpfeaa
set_option linter.all false
set_option maxRecDepth 100000
open Go.RowKit

theorem and127 {x : Int} (h0 : 0 ≤ x) (h1 : x < 4611686018427387904) : bits .and .i64 x 127 = x % 128 := by
  obtain ⟨n, rfl⟩ := Int.eq_ofNat_of_zero_le h0
  unfold bits
  have e1 : ((BitVec.ofInt IntKind.i64.bits (n : Int)) &&& (BitVec.ofInt IntKind.i64.bits 127)).toNat = n % 128 := by
    rw [BitVec.toNat_and, BitVec.ofInt_natCast]
    have : (BitVec.ofInt IntKind.i64.bits 127).toNat = 2 ^ 7 - 1 := by decide
    rw [this, Nat.and_two_pow_sub_one_eq_mod, BitVec.toNat_ofNat]
    have h2 : n % 2 ^ IntKind.i64.bits = n := Nat.mod_eq_of_lt (by
      have : (2 : Nat) ^ IntKind.i64.bits = 18446744073709551616 := by decide
      omega)
    rw [h2]
  dsimp only
  rw [e1, IntKind.wrap_i64]
  omega

set_option maxHeartbeats 4000000 in
theorem l2Unit_any (i : Nat) (w : World) (hi : i ≤ 5) :
    Calls Try.prog 68 #[.int .i64 (i : Int)] w fun e w' => e = .returned (.int .i64 (128 ^ i)) ∧ Qt w w' := by
  have : i = 0 ∨ i = 1 ∨ i = 2 ∨ i = 3 ∨ i = 4 ∨ i = 5 := by omega
  rcases this with rfl | rfl | rfl | rfl | rfl | rfl
  all_goals
    go_enter Try.func68, Try.ntmps68
    go_wp2_with fail
    go_ret
    exact ⟨rfl, Qt.refl _⟩

set_option maxHeartbeats 4000000 in
theorem l2At_any (key : Int) (i : Nat) (w : World) (hi : i ≤ 5) (hk : 0 ≤ key ∧ key < 562949953421312) :
    Calls Try.prog 82 #[.int .i64 key, .int .i64 (i : Int)] w fun e w' => e = .returned (.int .i64 (key / 128 ^ i % 128)) ∧ Qt w w' := by
  have : i = 0 ∨ i = 1 ∨ i = 2 ∨ i = 3 ∨ i = 4 ∨ i = 5 := by omega
  rcases this with rfl | rfl | rfl | rfl | rfl | rfl
  all_goals
    go_enter Try.func82, Try.ntmps82
    go_wp2_with fail
    go_ret
    refine ⟨?_, Qt.refl _⟩
    first
      | exact congrArg (fun z => Ending.returned (Value.int .i64 z)) ((and127 (by omega) (by omega)).trans (by simp))
      | exact congrArg (fun z => Ending.returned (Value.int .i64 z)) (and127 (by omega) (by omega))

end Go.Proofs.Ytllmhicmikpfeaa

namespace Go.Proofs.Ytllmhicmikpfeaa
set_option linter.all false
set_option maxRecDepth 100000
open Go.RowKit

theorem takeE_snoc {l : List Int} {k : Nat} (h : k < l.length) : l.take (k + 1) = l.take k ++ [l.getD k 0] := by
  rw [List.take_add_one, List.getElem?_eq_getElem h, List.getD_eq_getElem?_getD, List.getElem?_eq_getElem h]
  rfl
/-- the last m exponents as one number -/
def kdT (e : List Int) : Nat → Int
  | 0 => 0
  | m + 1 => e.getD (6 - m) 0 + 128 * kdT e m
theorem kdT_7 (e : List Int) : kdT e 7 = keyN e := by
  unfold keyN
  simp only [kdT, Nat.reduceSub, Nat.sub_zero]
  omega
theorem kdT_rng {e : List Int} (he : BxE B127 e) : ∀ m, m ≤ 7 → 0 ≤ kdT e m ∧ kdT e m < 562949953421312 := fun m hm => by
  have h0 := he.2 0 (by omega)
  have h1 := he.2 1 (by omega)
  have h2 := he.2 2 (by omega)
  have h3 := he.2 3 (by omega)
  have h4 := he.2 4 (by omega)
  have h5 := he.2 5 (by omega)
  have h6 := he.2 6 (by omega)
  unfold B127 at *
  have : m = 0 ∨ m = 1 ∨ m = 2 ∨ m = 3 ∨ m = 4 ∨ m = 5 ∨ m = 6 ∨ m = 7 := by omega
  rcases this with rfl | rfl | rfl | rfl | rfl | rfl | rfl | rfl <;> simp only [kdT, Nat.reduceSub, Nat.sub_zero] <;> omega
theorem kdT_step {e : List Int} (he : BxE B127 e) {m : Nat} (hm : m < 7) : kdT e (m + 1) % 128 = e.getD (6 - m) 0 ∧ kdT e (m + 1) / 128 = kdT e m := by
  have h := he.2 (6 - m) (by omega)
  unfold B127 at h
  rw [kdT]
  omega

set_option maxHeartbeats 4000000 in
theorem l2Exp_any (e : List Int) (w : World) (he : BxE B127 e) :
    Calls Try.prog 64 #[.int .i64 (keyN e)] w fun x w' => ∃ u, x = .returned u ∧ OwnI 3 w' w.heap.size w'.heap.size u e ∧ Below w.heap.size w w' := by
  rw [← kdT_7]
  have He := Lib.hid he
  have hl := he.1
  have Hl := Lib.hid hl
  obtain ⟨K, hK⟩ : ∃ K, K = kdT e 7 := ⟨_, rfl⟩
  rw [← hK]
  have HK := Lib.hid hK
  clear he hl hK
  go_enter Try.func64, Try.ntmps64
  go_wp2_with fail
  go_loopg [0, 3, 4] 7 (fun g s0 s3 s4 wr => ∃ (i : Nat) (X : Int), i ≤ 7 ∧ g = 7 - i ∧ s4 = .int .i64 (i : Int) ∧ s0 = .int .i64 X ∧ Hid (X = kdT e (7 - i)) ∧ Hid (OwnI 3 wr w.heap.size wr.heap.size s3 (e.take i)) ∧ Hid (Below w.heap.size w wr))
  case atStart => exact ⟨0, K, by omega, rfl, rfl, rfl, HK.out, Lib.hid (OwnF.ints ((OwnF.made0 w 3 (iv [])).mono (Nat.le_refl _) (by simp))), below_alloc _ _⟩
  case round =>
    obtain ⟨i, X, hi, rfl, rfl, rfl, hX, ho, hb⟩ := hrel
    obtain ⟨wo, rfl⟩ : ∃ x : World, x = wr := ⟨_, rfl⟩
    by_cases hlt : i < 7
    · have hii : (i : Int) < 7 := by omega
      obtain ⟨m, hm⟩ : ∃ m, 7 - i = m + 1 := ⟨6 - i, by omega⟩
      have hX2 := hX.out
      rw [hm] at hX2
      obtain ⟨s1, s2⟩ := kdT_step He.out (show m < 7 by omega)
      have hr := kdT_rng He.out (m + 1) (by omega)
      rw [← hX2] at s1 s2 hr
      have h6 : 6 - m = i := by omega
      rw [h6] at s1
      have HM := Lib.hid hm
      have S1 := Lib.hid s1
      have S2 := Lib.hid s2
      have Ht := Lib.hid (takeE_snoc (show i < e.length by rw [Hl.out]; exact hlt))
      have hsz := hb.out.size
      obtain ⟨p3, k3, rfl, _, _⟩ := ho.out.shape
      have hofn := ho.out.fn
      have hlen : (e.take i).length = i := by rw [List.length_take, Hl.out]; omega
      rw [hlen] at hofn ⊢
      have Hofn := Lib.hid hofn
      have Hc1 := Lib.hid (show i + 1 ≤ maxLen by unfold maxLen; omega)
      have Hc2 := Lib.hid (show (i + 1) * 8 ≤ 140737488355328 by omega)
      have hx0 : 0 ≤ X := hr.1
      have hx1 : X < 562949953421312 := hr.2
      have hq1 : X.tmod 128 = X % 128 := Int.tmod_eq_emod_of_nonneg hx0
      have hq2 : X.tdiv 128 = X / 128 := Int.tdiv_eq_ediv_of_nonneg hx0
      clear hm hX hX2 s1 s2 hr ho hofn hlen
      go_wp2_with (at_builtin; go_must (refine wpList_append_F rfl (.tmp 10) (.tmp 13) 24 rfl 3 (.int .i64 0) 8 Try.underlying24 info_int rfl w.heap.size wo.heap.size _ i (iv (e.take i)) rfl (Hofn.out.below (below_alloc _ _)) (by rw [size_alloc]; omega) (by rw [size_alloc]; omega) _ 1 _ rfl (rd_one _ _ _ rfl) (fun j _ => rfl) Hc1.out Hc2.out ?_; intro v2 w3 ho2 hg2))
      go_roundg (7 - (i + 1))
      case measure => omega
      case rel =>
        have hbx : Below w.heap.size wo w3 := ((below_alloc wo _).mono hsz).trans (grownBy_below hg2 Hofn.out.blocks (Nat.le_refl _) (by rw [size_alloc]; omega))
        refine ⟨i + 1, X / 128, by omega, rfl, by go_num, rfl, ?_, ?_, hb.out.trans hbx⟩
        · have h7 : 7 - (i + 1) = m := by have := HM.out; omega
          show X / 128 = kdT e (7 - (i + 1))
          rw [h7]; exact S2.out
        · show OwnI _ _ _ _ _ (e.take (i + 1))
          rw [Ht.out]
          have hlen : (e.take i).length = i := by rw [List.length_take, Hl.out]; omega
          refine OwnI.snoc1 ?_
          rw [hlen]
          rw [S1.out] at ho2
          exact ho2
    · obtain rfl : i = 7 := by omega
      go_wp2_with fail
      go_ret
      refine ⟨_, rfl, ?_, hb.out⟩
      have := ho.out
      rw [List.take_of_length_le (by rw [Hl.out]; exact Nat.le_refl _)] at this
      exact this

set_option maxHeartbeats 4000000 in
theorem l2Key_any (v : Value) (e : List Int) (w : World) (h : Ints w v e) (he : BxE B127 e) :
    Calls Try.prog 81 #[v] w fun x w' => x = .returned (.int .i64 (keyN e)) ∧ Qt w w' := by
  rw [← kdT_7]
  have He := Lib.hid he
  have hl := he.1
  have Hl := Lib.hid hl
  obtain ⟨p, cap, rfl, ⟨hx1, hx2⟩, hxc⟩ := h
  rw [hl] at hxc ⊢
  have Hxc := Lib.hid hxc
  clear he hl hx1 hx2 hxc
  go_enter Try.func81, Try.ntmps81
  go_wp2_with fail
  go_loopg [3, 4] 7 (fun g s3 s4 wr => ∃ (m : Nat) (X : Int), m ≤ 7 ∧ g = 7 - m ∧ s4 = .int .i64 (6 - (m : Int)) ∧ s3 = .int .i64 X ∧ Hid (X = kdT e m) ∧ Hid (Qt w wr))
  case atStart => exact ⟨0, 0, by omega, rfl, by go_num, rfl, rfl, Qt.refl _⟩
  case round =>
    obtain ⟨m, X, hm, rfl, rfl, rfl, hX, hq⟩ := hrel
    by_cases hlt : m < 7
    · obtain ⟨b, off, rfl, hc⟩ := Hxc.out (by omega)
      have c1 := hq.out.cell (hc (6 - m) (by omega))
      unfold iv at c1
      have hb := He.out.2 (6 - m) (by omega)
      have hr := kdT_rng He.out m (by omega)
      have hr2 := kdT_rng He.out (m + 1) (by omega)
      rw [kdT] at hr2
      obtain ⟨x, hx⟩ : ∃ x, x = e.getD (6 - m) 0 := ⟨_, rfl⟩
      rw [← hX.out] at hr hr2
      have hs : Hid (kdT e (m + 1) = x + 128 * X) := by show kdT e (m + 1) = _; rw [hX.out, hx]; rfl
      rw [← hx] at c1 hb hr2
      unfold B127 at hb
      have hi0 : (0 : Int) ≤ 6 - (m : Int) := by omega
      have hi1 : (6 : Int) - (m : Int) < 7 := by omega
      have hi2 : ((6 : Int) - (m : Int)).toNat = 6 - m := by omega
      clear hx hc
      go_wp2_with fail
      go_roundg (7 - (m + 1))
      case measure => omega
      case rel => exact ⟨m + 1, X * 128 + x, by omega, rfl, by congr 1; omega, rfl, by show _ = kdT e (m + 1); rw [hs.out]; omega, hq.out⟩
    · obtain rfl : m = 7 := by omega
      have hneg : ¬ ((0 : Int) ≤ 6 - ((7 : Nat) : Int)) := by decide
      go_wp2_with fail
      go_ret
      exact ⟨congrArg (fun z => Ending.returned (Value.int .i64 z)) hX.out, hq.out⟩

end Go.Proofs.Ytllmhicmikpfeaa

namespace Go.Proofs.Ytllmhicmikpfeaa
set_option linter.all false
set_option maxRecDepth 100000
open Go.RowKit

theorem keyN_at {e : List Int} (he : BxE B127 e) {i : Nat} (hi : i ≤ 5) : keyN e / 128 ^ i % 128 = e.getD i 0 := by
  have h0 := he.2 0 (by omega)
  have h1 := he.2 1 (by omega)
  have h2 := he.2 2 (by omega)
  have h3 := he.2 3 (by omega)
  have h4 := he.2 4 (by omega)
  have h5 := he.2 5 (by omega)
  have h6 := he.2 6 (by omega)
  unfold B127 at *
  unfold keyN
  have : i = 0 ∨ i = 1 ∨ i = 2 ∨ i = 3 ∨ i = 4 ∨ i = 5 := by omega
  rcases this with rfl | rfl | rfl | rfl | rfl | rfl <;> omega
theorem stB_127 {P : Pl} (h : BxP stB P) : BxP B127 P := h.mono fun k hk => by unfold stB B127; omega
theorem dvP_snoc {P : Pl} {k : Nat} (h : k < P.length) (i : Nat) : dvP i (P.take (k + 1)) = dvP i (P.take k) ++ sclP (P.getD k tmD).2 (dvE i (P.getD k tmD).1) := by
  unfold dvP
  rw [takeT_snoc h, List.flatMap_append]
  simp
/-- the terms that come of one, number by number -/
def dvO (i : Nat) (e : List Int) (lo s c : Int) (n : Nat) : Pl := (List.range n).map fun (j : Nat) => (dvS i e s (lo + (j : Int)), c)
theorem dvO_succ (i : Nat) (e : List Int) (lo s c : Int) (n : Nat) : dvO i e lo s c (n + 1) = dvO i e lo s c n ++ [(dvS i e s (lo + (n : Int)), c)] := by
  unfold dvO
  rw [List.range_succ, List.map_append]
  rfl
theorem dvO_len (i : Nat) (e : List Int) (lo s c : Int) (n : Nat) : (dvO i e lo s c n).length = n := by unfold dvO; simp
theorem dv_lt {i : Nat} {e : List Int} {a b : Int} {n : Nat} (ha : e.getD i 0 = a) (hb : e.getD (i + 1) 0 = b) (h : a < b) (hn : b = a + (n : Int)) (c : Int) : sclP c (dvE i e) = dvO i e a (a + b) (-c) n := by
  unfold dvE
  rw [ha, hb, if_pos h]
  unfold sclP dvK dvO
  rw [List.map_map, show (b - a).toNat = n by omega]
  refine List.map_congr_left fun j _ => ?_
  simp
theorem dv_ge {i : Nat} {e : List Int} {a b : Int} {n : Nat} (ha : e.getD i 0 = a) (hb : e.getD (i + 1) 0 = b) (h : ¬ a < b) (hn : a = b + (n : Int)) (c : Int) : sclP c (dvE i e) = dvO i e b (a + b) c n := by
  unfold dvE
  rw [ha, hb, if_neg h]
  unfold sclP dvK dvO
  rw [List.map_map, show (a - b).toNat = n by omega]
  refine List.map_congr_left fun j _ => ?_
  simp [Int.add_comm]
theorem pw_le {i : Nat} (hi : i ≤ 5) : 1 ≤ pw128 i ∧ pw128 i ≤ 34359738368 := by
  have : i = 0 ∨ i = 1 ∨ i = 2 ∨ i = 3 ∨ i = 4 ∨ i = 5 := by omega
  rcases this with rfl | rfl | rfl | rfl | rfl | rfl <;> decide
theorem mul_bd {a U : Int} (h0 : 0 ≤ a) (h1 : a ≤ 127) (h2 : 1 ≤ U) (h3 : U ≤ 34359738368) : 0 ≤ a * U ∧ a * U ≤ 4363686772736 := by
  refine ⟨Int.mul_nonneg h0 (by omega), ?_⟩
  have := Int.mul_le_mul h1 h3 (by omega) (by omega)
  omega
theorem dvO_box {i : Nat} {e : List Int} {lo s c : Int} {n : Nat} (h : BxP stB (dvO i e lo s c n)) {j : Nat} (hj : j < n) : BxE stB (dvS i e s (lo + (j : Int))) :=
  h (dvS i e s (lo + (j : Int)), c) (List.mem_map.2 ⟨j, List.mem_range.2 hj, rfl⟩)
/-- what the round of the inner loop reckons -/
structure DvR (i : Nat) (e : List Int) (a b lo : Int) (n : Nat) (U V R : Int) : Prop where
  u : U = pw128 i
  v : V = pw128 (i + 1)
  r : R = keyN e - a * U - b * V
  r0 : 0 ≤ R ∧ R < 562949953421312
  lo0 : 0 ≤ lo
  hi : lo + (n : Int) ≤ 127
  s : a + b = lo + lo + (n : Int)
theorem DvR.key {i : Nat} {e : List Int} {a b lo : Int} {n : Nat} {U V R : Int} (h : DvR i e a b lo n U V R) (he : e.length = 7) (hi : i < 6) (ha : e.getD i 0 = a) (hb : e.getD (i + 1) 0 = b) (j : Nat) :
    keyN (dvS i e (a + b) (lo + (j : Int))) = R + (lo + (n : Int) - 1 - (j : Int)) * U + (lo + (j : Int)) * V := by
  rw [keyN_dvS he hi, ha, hb, h.r, h.u, h.v, h.s]
  congr 2
  congr 1
  omega

set_option maxHeartbeats 8000000 in
theorem l2Divided_any (v : Value) (P : Pl) (i : Nat) (w : World) (h : RdMn w v (msOf P)) (hb : BxP stB P) (hi : i < 4) (hl : P.length ≤ 268435456) (h1 : L1P P ≤ 250000000000000000) :
    Calls Try.prog 70 #[v, .int .i64 (i : Int)] w fun e w' => ∃ u P', e = .returned u ∧ OwnMn w' w.heap.size w'.heap.size u (msOf P') ∧ GaOk (dvP i P) P' ∧ Below w.heap.size w w' := by
  have H := Lib.hid h
  have Hb := Lib.hid hb
  have H1 := Lib.hid h1
  obtain ⟨p, kp, rfl, _, _⟩ := h.sh
  rw [msOf_length] at H ⊢
  obtain ⟨L, hL⟩ : ∃ n, n = P.length := ⟨_, rfl⟩
  rw [← hL] at H hl ⊢
  have HL := Lib.hid hL
  have Hm0 := Lib.hid (OwnMn.made0 w)
  have hi1 : IntKind.i64.wrap ((i : Int) + 1) = (i : Int) + 1 := k64 (by omega) (by omega)
  have Hi1 := Lib.hid hi1
  clear h hb h1 hL hi1
  go_enter Try.func70, Try.ntmps70
  go_wp2_with fail
  go_loopg [5, 6] L (fun g s5 s6 wz => ∃ (k : Nat), k ≤ L ∧ g = L - k ∧ s6 = .int .i64 (k : Int) ∧ Hid (OwnMn wz w.heap.size wz.heap.size s5 (msOf (dvP i (P.take k)))) ∧ Hid (Below w.heap.size w wz))
  case atStart => exact ⟨0, Nat.zero_le _, rfl, rfl, by have := Hm0.out; rw [← size_alloc] at this; exact this, below_alloc _ _⟩
  case round =>
    obtain ⟨k, hk, rfl, rfl, hn, hbz⟩ := hrel
    obtain ⟨wz, rfl⟩ : ∃ x : World, x = wr := ⟨_, rfl⟩
    by_cases hkl : k < L
    · have hkI : (k : Int) < (L : Int) := by omega
      have hkP : k < P.length := by rw [← HL.out]; exact hkl
      obtain ⟨g0, rfl⟩ := H.out.ptr (by rw [msOf_length]; omega)
      obtain ⟨c1, c2⟩ := cell_rd H.out hkP
      have c1 := cell_below hbz.out c1
      have c2 := cell_below hbz.out c2
      have Hsn := Lib.hid (dvP_snoc hkP i)
      have ht := getD_tm hkP
      have hcl := Nat.le_trans (L1P_mem ht) H1.out
      have hee := Hb.out _ ht
      obtain ⟨t, htt⟩ : ∃ t, t = P.getD k tmD := ⟨_, rfl⟩
      rw [← htt] at c1 c2 Hsn hcl hee
      obtain ⟨e, c⟩ := t
      dsimp only at c1 c2 Hsn hcl hee
      have h127 : BxE B127 e := hee.mono fun k hk => by unfold stB B127; omega
      obtain ⟨hbe, _, _⟩ := dvE_box hee hi
      have Hbe := Lib.hid hbe
      have Hee := Lib.hid hee
      have hA0 := keyN_at h127 (i := i) (by omega)
      have hB0 := keyN_at h127 (i := i + 1) (by omega)
      have hkr := keyN_rng h127
      obtain ⟨K, hK⟩ : ∃ K, K = keyN e := ⟨_, rfl⟩
      rw [← hK] at c1 hA0 hB0 hkr
      obtain ⟨a, ha⟩ : ∃ a, a = e.getD i 0 := ⟨_, rfl⟩
      obtain ⟨b, hbb⟩ : ∃ b, b = e.getD (i + 1) 0 := ⟨_, rfl⟩
      have Hha := Lib.hid ha.symm
      have Hhb := Lib.hid hbb.symm
      have ra := hee.2 i (by omega)
      have rb := hee.2 (i + 1) (by omega)
      rw [← ha] at ra hA0
      rw [← hbb] at rb hB0
      have Hb4 := Lib.hid (show 0 ≤ a ∧ a ≤ 4 ∧ 0 ≤ b ∧ b ≤ 4 by unfold stB at ra rb; omega)
      have HA := Lib.hid (show Calls Try.prog 82 #[.int .i64 K, .int .i64 (i : Int)] wz fun e w' => e = .returned (.int .i64 a) ∧ Qt wz w' by rw [← hA0]; exact l2At_any K i wz (by omega) hkr)
      have HBc := Lib.hid (fun W => show Calls Try.prog 82 #[.int .i64 K, .int .i64 ((i : Int) + 1)] W fun e w' => e = .returned (.int .i64 b) ∧ Qt W w' by rw [← hB0]; exact l2At_any K (i + 1) W (by omega) hkr)
      obtain ⟨U, hU⟩ : ∃ U, U = pw128 i := ⟨_, rfl⟩
      obtain ⟨V, hV⟩ : ∃ V, V = pw128 (i + 1) := ⟨_, rfl⟩
      have HU0 := Lib.hid hU
      have HV0 := Lib.hid hV
      have pU := pw_le (i := i) (by omega)
      have pV := pw_le (i := i + 1) (by omega)
      rw [← hU] at pU
      rw [← hV] at pV
      have HU := Lib.hid pU
      have HV := Lib.hid pV
      have HUv := Lib.hid (fun W => show Calls Try.prog 68 #[.int .i64 (i : Int)] W fun e w' => e = .returned (.int .i64 U) ∧ Qt W w' by rw [hU]; exact l2Unit_any i W (by omega))
      have HVv := Lib.hid (fun W => show Calls Try.prog 68 #[.int .i64 ((i : Int) + 1)] W fun e w' => e = .returned (.int .i64 V) ∧ Qt W w' by rw [hV]; exact l2Unit_any (i + 1) W (by omega))
      have haU := mul_bd (a := a) (by have := Hb4.out; omega) (by have := Hb4.out; omega) pU.1 pU.2
      have hbV := mul_bd (a := b) (by have := Hb4.out; omega) (by have := Hb4.out; omega) pV.1 pV.2
      have hrest := keyN_set (e := e.set (i + 1) 0) (i := i) (by simpa using hee.1) (by omega) 0
      rw [keyN_set hee.1 (show i + 1 < 7 by omega), set_getD _ (by rw [hee.1]; omega), if_neg (show ¬ i = i + 1 by omega), ← ha, ← hbb, ← hU, ← hV, ← hK] at hrest
      have hrr := keyN_rng (e := (e.set (i + 1) 0).set i 0) ⟨by simpa using hee.1, fun k hk => by
        rw [set_getD _ (by rw [List.length_set, hee.1]; omega), set_getD _ (by rw [hee.1]; omega)]
        have := h127.2 k hk
        split
        · unfold B127; omega
        · split
          · unfold B127; omega
          · exact this⟩
      obtain ⟨aU, hau⟩ : ∃ z, z = a * U := ⟨_, rfl⟩
      obtain ⟨bV, hbv0⟩ : ∃ z, z = b * V := ⟨_, rfl⟩
      obtain ⟨R, hR⟩ : ∃ z, z = K - aU - bV := ⟨_, rfl⟩
      have hRr : 0 ≤ R ∧ R < 562949953421312 := by
        rw [hrest, Int.sub_mul, Int.sub_mul, ← hau, ← hbv0] at hrr
        omega
      have HR0 := Lib.hid (show R = keyN e - a * U - b * V by rw [hR, hau, hbv0, hK])
      have Hr0 := Lib.hid hRr
      rw [← hau] at haU
      rw [← hbv0] at hbV
      have q1 := Lib.hid (show IntKind.i64.wrap (a * U) = aU by rw [← hau]; exact k64 (by omega) (by omega))
      have q2 := Lib.hid (show IntKind.i64.wrap (K - aU) = K - aU from k64 (by omega) (by omega))
      have q3 := Lib.hid (show IntKind.i64.wrap (b * V) = bV by rw [← hbv0]; exact k64 (by omega) (by omega))
      have q4 := Lib.hid (show IntKind.i64.wrap (K - aU - bV) = R by rw [← hR]; exact k64 (by omega) (by omega))
      obtain ⟨p5, k5, rfl, _, _, _⟩ := hn.out.shape
      have Hnz := Lib.hid hn.out
      have Hdl := Lib.hid (show (dvP i (P.take k)).length ≤ 1073741824 by
        have := (dvP_box hi (P := P.take k) fun t ht => Hb.out t (List.mem_of_mem_take ht)).2.2
        rw [List.length_take, ← HL.out] at this
        omega)
      have ca := Hb4.out
      have hcl1 : -1000000000000000000 ≤ c := by omega
      have hcl2 : c ≤ 1000000000000000000 := by omega
      clear htt ht hcl hee h127 hbe hA0 hB0 hkr hK ha hbb ra rb hU hV pU pV haU hbV hrest hrr hau hbv0 hR hRr hn
      go_wp2_with fail
      refine HA.out.mono ?_
      rintro e1 w3 ⟨rfl, hq3⟩
      have c1 := hq3.cell c1
      have c2 := hq3.cell c2
      have Hbz3 := Lib.hid (hbz.out.trans (hq3.below w.heap.size))
      have Hnz3 := Lib.hid (show OwnMn w3 w.heap.size w3.heap.size (.slice p5 (msOf (dvP i (P.take k))).length k5) (msOf (dvP i (P.take k))) by rw [hq3.size]; exact Hnz.out.below (hq3.below _))
      clear hq3
      have f1 := Hi1.out
      go_wp2_with fail
      clear f1
      refine (HBc.out w3).mono ?_
      rintro e1 w4 ⟨rfl, hq4⟩
      have c1 := hq4.cell c1
      have c2 := hq4.cell c2
      have Hbz4 := Lib.hid (Hbz3.out.trans (hq4.below w.heap.size))
      have Hnz4 := Lib.hid (show OwnMn w4 w.heap.size w4.heap.size (.slice p5 (msOf (dvP i (P.take k))).length k5) (msOf (dvP i (P.take k))) by rw [hq4.size]; exact Hnz3.out.below (hq4.below _))
      clear hq4
      go_wp2_with fail
      have f1 := Hi1.out
      have f2 := q1.out
      have f3 := q2.out
      have f4 := q3.out
      have f5 := q4.out
      go_quiet (first | (go_at_call 68; first | with_reducible refine quiet_q (HUv.out _) | with_reducible refine quiet_q (HVv.out _)))
      clear f1 f2 f3 f4 f5
      obtain ⟨w5, hw5⟩ : ∃ W, W = w4.drewN nq := ⟨_, rfl⟩
      rw [← hw5]
      have c2 : w5.cell? ⟨g0, k * 2 + 1, none⟩ = some (.int .i64 c) := by rw [hw5]; exact c2
      have Hbz2 := Lib.hid (show Below w.heap.size w w5 by rw [hw5]; exact Below.drewN Hbz4.out _)
      have Hnz := Lib.hid (show OwnMn w5 w.heap.size w5.heap.size (.slice p5 (msOf (dvP i (P.take k))).length k5) (msOf (dvP i (P.take k))) by rw [hw5]; exact Hnz4.out.below (Below.of_drewN _ _))
      clear hw5
      by_cases hab : a < b
      · obtain ⟨n, hn⟩ : ∃ n : Nat, b = a + (n : Int) := ⟨(b - a).toNat, by omega⟩
        obtain ⟨lo, hlo⟩ : ∃ lo, lo = a := ⟨_, rfl⟩
        obtain ⟨cc, hcc⟩ : ∃ z, z = -c := ⟨_, rfl⟩
        have hds : sclP c (dvE i e) = dvO i e lo (a + b) cc n := by rw [hlo, hcc]; exact dv_lt Hha.out Hhb.out hab hn c
        have hR : DvR i e a b lo n U V R := ⟨HU0.out, HV0.out, HR0.out, Hr0.out, by omega, by omega, by omega⟩
        have hbx : BxP stB (dvO i e lo (a + b) cc n) := by rw [← hds]; exact Hbe.out.scl c
        have Hnl := Lib.hid (show n ≤ 4 by have := Hb4.out; omega)
        have z1 : IntKind.i64.wrap (a - b) = -(n : Int) := by rw [k64 (by omega) (by omega)]; omega
        have z2 : min a b = lo := by omega
        have z3 : -(n : Int) < 0 := by omega
        have z6 : 0 < n := by omega
        have z7 : (0 : Int) < (n : Int) := by omega
        have z4 : IntKind.i64.wrap (0 - -(n : Int)) = (n : Int) := by rw [k64 (by omega) (by omega)]; omega
        have z5 : IntKind.i64.wrap (0 - c) = cc := by rw [k64 (by omega) (by omega)]; omega
        have z4' : IntKind.i64.wrap (n : Int) = (n : Int) := k64 (by omega) (by omega)
        have z5' : IntKind.i64.wrap (-c) = cc := by rw [k64 (by omega) (by omega)]; omega
        clear hn hcc hab
        have Hlo := Lib.hid hlo
        have HR := Lib.hid hR
        have Hds := Lib.hid hds
        have Hbx := Lib.hid hbx
        clear hlo hR hds hbx
        go_wp2_with fail
        go_loopg [5, 13] n (fun g s5 s13 wv => ∃ (j : Nat), j ≤ n ∧ g = n - j ∧ s13 = .int .i64 (j : Int) ∧ Hid (OwnMn wv w.heap.size wv.heap.size s5 (msOf (dvP i (P.take k) ++ dvO i e lo (a + b) cc j))) ∧ Hid (Below w.heap.size w wv))
        case atStart => exact ⟨0, Nat.zero_le _, rfl, rfl, by have := Hnz.out; simpa [Hid, dvO] using this, Hbz2.out⟩
        case round =>
          obtain ⟨j, hj, rfl, rfl, hf, hbv⟩ := hrel
          obtain ⟨wv, rfl⟩ : ∃ x : World, x = wr := ⟨_, rfl⟩
          have hsv := hbv.out.size
          by_cases hjl : j < n
          · have hjI : (j : Int) < (n : Int) := by omega
            have hn4 := Hnl.out
            have Hjl := Lib.hid (show j + 1 ≤ n by omega)
            have hr := HR.out
            have hr0 := hr.r0
            have hrl := hr.lo0
            have hrh := hr.hi
            have hkr := keyN_rng ((dvO_box Hbx.out hjl).mono (fun k hk => (show stB k ≤ B127 k by unfold stB B127; omega)))
            have hky := hr.key Hee.out.1 (by omega) Hha.out Hhb.out j
            rw [hky] at hkr
            obtain ⟨x, hx⟩ : ∃ x, x = lo + (n : Int) - 1 - (j : Int) := ⟨_, rfl⟩
            obtain ⟨y, hy⟩ : ∃ y, y = lo + (j : Int) := ⟨_, rfl⟩
            rw [← hx, ← hy] at hky hkr
            have hxU := mul_bd (a := x) (by omega) (by omega) (HU.out).1 (HU.out).2
            have hyV := mul_bd (a := y) (by omega) (by omega) (HV.out).1 (HV.out).2
            obtain ⟨xU, hxu⟩ : ∃ z, z = x * U := ⟨_, rfl⟩
            obtain ⟨yV, hyv⟩ : ∃ z, z = y * V := ⟨_, rfl⟩
            rw [← hxu] at hky hkr hxU
            rw [← hyv] at hky hkr hyV
            have q1 : IntKind.i64.wrap (lo + (n : Int)) = lo + (n : Int) := k64 (by omega) (by omega)
            have q2 : IntKind.i64.wrap (lo + (n : Int) - 1) = lo + (n : Int) - 1 := k64 (by omega) (by omega)
            have q3 : IntKind.i64.wrap (lo + (n : Int) - 1 - (j : Int)) = x := by rw [← hx]; exact k64 (by omega) (by omega)
            have q4 : IntKind.i64.wrap (x * U) = xU := by rw [← hxu]; exact k64 (by omega) (by omega)
            have q5 : IntKind.i64.wrap (R + xU) = R + xU := k64 (by omega) (by omega)
            have q6 : IntKind.i64.wrap (lo + (j : Int)) = y := by rw [← hy]; exact k64 (by omega) (by omega)
            have q7 : IntKind.i64.wrap (y * V) = yV := by rw [← hyv]; exact k64 (by omega) (by omega)
            have q8 : IntKind.i64.wrap (R + xU + yV) = R + xU + yV := k64 (by omega) (by omega)
            have Q1 := Lib.hid q1
            have Q2 := Lib.hid q2
            have Q3 := Lib.hid q3
            have Q4 := Lib.hid q4
            have Q5 := Lib.hid q5
            have Q6 := Lib.hid q6
            have Q7 := Lib.hid q7
            have Q8 := Lib.hid q8
            have Hky := Lib.hid (show (keyN (dvS i e (a + b) (lo + (j : Int))), cc) = (R + xU + yV, cc) by rw [hr.key Hee.out.1 (by omega) Hha.out Hhb.out j, hxu, hyv, hx, hy])
            have Hsj := Lib.hid (dvO_succ i e lo (a + b) cc j)
            obtain ⟨p5, k5, rfl, _, _, _⟩ := hf.out.shape
            have hlen : (msOf (dvP i (P.take k) ++ dvO i e lo (a + b) cc j)).length + 1 ≤ 4000000000 := by
              rw [msOf_length, List.length_append, dvO_len]
              have := Hdl.out
              have := Hnl.out
              omega
            have Hlen := Lib.hid hlen
            have HJ2 := Lib.hid (show IntKind.i64.wrap ((j : Int) + 1) = (j : Int) + 1 from k64 (by omega) (by omega))
            obtain ⟨NL, hNL⟩ : ∃ z, z = (msOf (dvP i (P.take k) ++ dvO i e lo (a + b) cc j)).length := ⟨_, rfl⟩
            have Hf := Lib.hid hf.out
            rw [← hNL] at Hf ⊢
            have HUv := Lib.hid (fun W => show Calls Try.prog 68 #[.int .i64 (i : Int)] W fun e w' => e = .returned (.int .i64 U) ∧ Qt W w' by rw [hr.u]; exact l2Unit_any i W (by omega))
            have HVv := Lib.hid (fun W => show Calls Try.prog 68 #[.int .i64 ((i : Int) + 1)] W fun e w' => e = .returned (.int .i64 V) ∧ Qt W w' by rw [hr.v]; exact l2Unit_any (i + 1) W (by omega))
            clear hr hr0 hrl hrh hkr hky hx hy hxU hyV hxu hyv q1 q2 q3 q4 q5 q6 q7 q8 hlen hNL hf
            have f1 := Q1.out
            have f2 := Q2.out
            have f3 := Q3.out
            go_wp2_with fail
            clear f1 f2 f3
            refine (HUv.out wv).mono ?_
            rintro e1 w6 ⟨rfl, hq6⟩
            have f1 := Hi1.out
            have f4 := Q4.out
            have f5 := Q5.out
            have f6 := Q6.out
            have Hb6 := Lib.hid (hbv.out.trans (hq6.below w.heap.size))
            have Hf6 := Lib.hid (Hf.out.below (hq6.below _))
            have Hq6 := Lib.hid hq6
            clear hq6
            go_wp2_with fail
            clear f1 f4 f5 f6
            refine (HVv.out w6).mono ?_
            rintro e1 w7 ⟨rfl, hq7⟩
            have Hb7 := Lib.hid (Hb6.out.trans (hq7.below w.heap.size))
            have Hf7 := Lib.hid (Hf6.out.below (hq7.below _))
            have hs7 : w7.heap.size = wv.heap.size := hq7.size.trans Hq6.out.size
            have Hs7 := Lib.hid hs7
            have Hlo7 := Lib.hid (show w.heap.size ≤ w7.heap.size by omega)
            clear hq7 hs7
            have f7 := Q7.out
            have f8 := Q8.out
            have f10 := HJ2.out
            go_wp2_with (at_builtin; go_must (refine wpList_append_Mn rfl (.tmp 74) (.tmp 96) rfl w.heap.size wv.heap.size _ (msOf (dvP i (P.take k) ++ dvO i e lo (a + b) cc j)) rfl (Hf7.out.below (below_alloc _ _)) (by rw [size_alloc]; exact Nat.le_succ_of_le Hlo7.out) _ _ (R + xU + yV, cc) rfl (cell_of_blk (heap_alloc_top _ _) (j := 0) rfl) (cell_of_blk (heap_alloc_top _ _) (j := 1) rfl) Hlen.out ?_; intro v' w' ho' hg'))
            clear f7 f8 f10
            go_roundg (n - (j + 1))
            case measure => omega
            case rel =>
              have hb8 : Below w.heap.size w w' := (Hb7.out.trans ((below_alloc w7 _).mono Hlo7.out)).trans (grownBy_below hg' Hf7.out.blocks (Nat.le_refl _) (by rw [size_alloc]; exact Nat.le_succ_of_le Hlo7.out))
              refine ⟨j + 1, Hjl.out, rfl, by go_num, ?_, hb8⟩
              show OwnMn _ _ _ _ _
              rw [Hsj.out, ← List.append_assoc, msOf_append, msOf_one, Hky.out]
              exact ho'
          · have hjn : ¬ ((j : Int) < (n : Int)) := by omega
            have hjN : j = n := by omega
            have hf2 := hf.out
            rw [hjN, ← Hds.out, ← Hsn.out] at hf2
            have Hf2 := Lib.hid hf2
            clear hf2 hf hjN
            go_wp2_with fail
            go_roundg (L - (k + 1))
            case measure => omega
            case rel => exact ⟨k + 1, by omega, rfl, by go_num, Hf2.out, hbv.out⟩
      · obtain ⟨n, hn⟩ : ∃ n : Nat, a = b + (n : Int) := ⟨(a - b).toNat, by omega⟩
        obtain ⟨lo, hlo⟩ : ∃ lo, lo = b := ⟨_, rfl⟩
        obtain ⟨cc, hcc⟩ : ∃ z, z = c := ⟨_, rfl⟩
        have hds : sclP c (dvE i e) = dvO i e lo (a + b) cc n := by rw [hlo, hcc]; exact dv_ge Hha.out Hhb.out hab hn c
        have hR : DvR i e a b lo n U V R := ⟨HU0.out, HV0.out, HR0.out, Hr0.out, by omega, by omega, by omega⟩
        have hbx : BxP stB (dvO i e lo (a + b) cc n) := by rw [← hds]; exact Hbe.out.scl c
        have Hnl := Lib.hid (show n ≤ 4 by have := Hb4.out; omega)
        have z1 : IntKind.i64.wrap (a - b) = (n : Int) := by rw [k64 (by omega) (by omega)]; omega
        have z2 : min a b = lo := by omega
        have z3 : ¬ ((n : Int) < 0) := by omega
        subst hcc
        clear hn hab
        have Hlo := Lib.hid hlo
        have HR := Lib.hid hR
        have Hds := Lib.hid hds
        have Hbx := Lib.hid hbx
        clear hlo hR hds hbx
        go_wp2_with fail
        go_loopg [5, 13] n (fun g s5 s13 wv => ∃ (j : Nat), j ≤ n ∧ g = n - j ∧ s13 = .int .i64 (j : Int) ∧ Hid (OwnMn wv w.heap.size wv.heap.size s5 (msOf (dvP i (P.take k) ++ dvO i e lo (a + b) cc j))) ∧ Hid (Below w.heap.size w wv))
        case atStart => exact ⟨0, Nat.zero_le _, rfl, rfl, by have := Hnz.out; simpa [Hid, dvO] using this, Hbz2.out⟩
        case round =>
          obtain ⟨j, hj, rfl, rfl, hf, hbv⟩ := hrel
          obtain ⟨wv, rfl⟩ : ∃ x : World, x = wr := ⟨_, rfl⟩
          have hsv := hbv.out.size
          by_cases hjl : j < n
          · have hjI : (j : Int) < (n : Int) := by omega
            have hn4 := Hnl.out
            have Hjl := Lib.hid (show j + 1 ≤ n by omega)
            have hr := HR.out
            have hr0 := hr.r0
            have hrl := hr.lo0
            have hrh := hr.hi
            have hkr := keyN_rng ((dvO_box Hbx.out hjl).mono (fun k hk => (show stB k ≤ B127 k by unfold stB B127; omega)))
            have hky := hr.key Hee.out.1 (by omega) Hha.out Hhb.out j
            rw [hky] at hkr
            obtain ⟨x, hx⟩ : ∃ x, x = lo + (n : Int) - 1 - (j : Int) := ⟨_, rfl⟩
            obtain ⟨y, hy⟩ : ∃ y, y = lo + (j : Int) := ⟨_, rfl⟩
            rw [← hx, ← hy] at hky hkr
            have hxU := mul_bd (a := x) (by omega) (by omega) (HU.out).1 (HU.out).2
            have hyV := mul_bd (a := y) (by omega) (by omega) (HV.out).1 (HV.out).2
            obtain ⟨xU, hxu⟩ : ∃ z, z = x * U := ⟨_, rfl⟩
            obtain ⟨yV, hyv⟩ : ∃ z, z = y * V := ⟨_, rfl⟩
            rw [← hxu] at hky hkr hxU
            rw [← hyv] at hky hkr hyV
            have q1 : IntKind.i64.wrap (lo + (n : Int)) = lo + (n : Int) := k64 (by omega) (by omega)
            have q2 : IntKind.i64.wrap (lo + (n : Int) - 1) = lo + (n : Int) - 1 := k64 (by omega) (by omega)
            have q3 : IntKind.i64.wrap (lo + (n : Int) - 1 - (j : Int)) = x := by rw [← hx]; exact k64 (by omega) (by omega)
            have q4 : IntKind.i64.wrap (x * U) = xU := by rw [← hxu]; exact k64 (by omega) (by omega)
            have q5 : IntKind.i64.wrap (R + xU) = R + xU := k64 (by omega) (by omega)
            have q6 : IntKind.i64.wrap (lo + (j : Int)) = y := by rw [← hy]; exact k64 (by omega) (by omega)
            have q7 : IntKind.i64.wrap (y * V) = yV := by rw [← hyv]; exact k64 (by omega) (by omega)
            have q8 : IntKind.i64.wrap (R + xU + yV) = R + xU + yV := k64 (by omega) (by omega)
            have Q1 := Lib.hid q1
            have Q2 := Lib.hid q2
            have Q3 := Lib.hid q3
            have Q4 := Lib.hid q4
            have Q5 := Lib.hid q5
            have Q6 := Lib.hid q6
            have Q7 := Lib.hid q7
            have Q8 := Lib.hid q8
            have Hky := Lib.hid (show (keyN (dvS i e (a + b) (lo + (j : Int))), cc) = (R + xU + yV, cc) by rw [hr.key Hee.out.1 (by omega) Hha.out Hhb.out j, hxu, hyv, hx, hy])
            have Hsj := Lib.hid (dvO_succ i e lo (a + b) cc j)
            obtain ⟨p5, k5, rfl, _, _, _⟩ := hf.out.shape
            have hlen : (msOf (dvP i (P.take k) ++ dvO i e lo (a + b) cc j)).length + 1 ≤ 4000000000 := by
              rw [msOf_length, List.length_append, dvO_len]
              have := Hdl.out
              have := Hnl.out
              omega
            have Hlen := Lib.hid hlen
            have HJ2 := Lib.hid (show IntKind.i64.wrap ((j : Int) + 1) = (j : Int) + 1 from k64 (by omega) (by omega))
            obtain ⟨NL, hNL⟩ : ∃ z, z = (msOf (dvP i (P.take k) ++ dvO i e lo (a + b) cc j)).length := ⟨_, rfl⟩
            have Hf := Lib.hid hf.out
            rw [← hNL] at Hf ⊢
            have HUv := Lib.hid (fun W => show Calls Try.prog 68 #[.int .i64 (i : Int)] W fun e w' => e = .returned (.int .i64 U) ∧ Qt W w' by rw [hr.u]; exact l2Unit_any i W (by omega))
            have HVv := Lib.hid (fun W => show Calls Try.prog 68 #[.int .i64 ((i : Int) + 1)] W fun e w' => e = .returned (.int .i64 V) ∧ Qt W w' by rw [hr.v]; exact l2Unit_any (i + 1) W (by omega))
            clear hr hr0 hrl hrh hkr hky hx hy hxU hyV hxu hyv q1 q2 q3 q4 q5 q6 q7 q8 hlen hNL hf
            have f1 := Q1.out
            have f2 := Q2.out
            have f3 := Q3.out
            go_wp2_with fail
            clear f1 f2 f3
            refine (HUv.out wv).mono ?_
            rintro e1 w6 ⟨rfl, hq6⟩
            have f1 := Hi1.out
            have f4 := Q4.out
            have f5 := Q5.out
            have f6 := Q6.out
            have Hb6 := Lib.hid (hbv.out.trans (hq6.below w.heap.size))
            have Hf6 := Lib.hid (Hf.out.below (hq6.below _))
            have Hq6 := Lib.hid hq6
            clear hq6
            go_wp2_with fail
            clear f1 f4 f5 f6
            refine (HVv.out w6).mono ?_
            rintro e1 w7 ⟨rfl, hq7⟩
            have Hb7 := Lib.hid (Hb6.out.trans (hq7.below w.heap.size))
            have Hf7 := Lib.hid (Hf6.out.below (hq7.below _))
            have hs7 : w7.heap.size = wv.heap.size := hq7.size.trans Hq6.out.size
            have Hs7 := Lib.hid hs7
            have Hlo7 := Lib.hid (show w.heap.size ≤ w7.heap.size by omega)
            clear hq7 hs7
            have f7 := Q7.out
            have f8 := Q8.out
            have f10 := HJ2.out
            go_wp2_with (at_builtin; go_must (refine wpList_append_Mn rfl (.tmp 74) (.tmp 96) rfl w.heap.size wv.heap.size _ (msOf (dvP i (P.take k) ++ dvO i e lo (a + b) cc j)) rfl (Hf7.out.below (below_alloc _ _)) (by rw [size_alloc]; exact Nat.le_succ_of_le Hlo7.out) _ _ (R + xU + yV, cc) rfl (cell_of_blk (heap_alloc_top _ _) (j := 0) rfl) (cell_of_blk (heap_alloc_top _ _) (j := 1) rfl) Hlen.out ?_; intro v' w' ho' hg'))
            clear f7 f8 f10
            go_roundg (n - (j + 1))
            case measure => omega
            case rel =>
              have hb8 : Below w.heap.size w w' := (Hb7.out.trans ((below_alloc w7 _).mono Hlo7.out)).trans (grownBy_below hg' Hf7.out.blocks (Nat.le_refl _) (by rw [size_alloc]; exact Nat.le_succ_of_le Hlo7.out))
              refine ⟨j + 1, Hjl.out, rfl, by go_num, ?_, hb8⟩
              show OwnMn _ _ _ _ _
              rw [Hsj.out, ← List.append_assoc, msOf_append, msOf_one, Hky.out]
              exact ho'
          · have hjn : ¬ ((j : Int) < (n : Int)) := by omega
            have hjN : j = n := by omega
            have hf2 := hf.out
            rw [hjN, ← Hds.out, ← Hsn.out] at hf2
            have Hf2 := Lib.hid hf2
            clear hf2 hf hjN
            go_wp2_with fail
            go_roundg (L - (k + 1))
            case measure => omega
            case rel => exact ⟨k + 1, by omega, rfl, by go_num, Hf2.out, hbv.out⟩
    · have hkn : ¬ ((k : Int) < (L : Int)) := by omega
      have hn2 := hn.out
      rw [List.take_of_length_le (by rw [← HL.out]; omega)] at hn2
      obtain ⟨d1, d2, d3⟩ := dvP_box hi Hb.out
      have hG := l2Gather_any u5 (dvP i P) wz hn2.rd (stB_127 d1) (by rw [← HL.out] at d3; omega) (by have := H1.out; omega)
      have HG := Lib.hid hG
      obtain ⟨p5, k5, rfl, _, _, _⟩ := hn2.shape
      have hszz := hbz.out.size
      clear hn2 hn hG d1 d2 d3
      go_wp2_with fail
      refine HG.out.mono ?_
      rintro e w3 ⟨u, P', rfl, ho3, hg3, hb3⟩
      have Ho3 := Lib.hid (ho3.mono hszz (Nat.le_refl _))
      have Hg3 := Lib.hid hg3
      have Hb3 := Lib.hid (hbz.out.trans (hb3.mono hszz))
      obtain ⟨p6, k6, rfl, _, _, _⟩ := ho3.shape
      clear ho3 hg3 hb3
      go_wp2_with fail
      go_ret
      exact ⟨_, P', rfl, Ho3.out, Hg3.out, Hb3.out⟩

end Go.Proofs.Ytllmhicmikpfeaa

namespace Go.Proofs.Ytllmhicmikpfeaa
set_option linter.all false
set_option maxRecDepth 100000

theorem cancel {a b : Int} (ha : a ≠ 0) (h : a * b = 0) : b = 0 := (Int.mul_eq_zero.1 h).resolve_left ha
theorem step2 {a b c p q r s u v w : Int} (h1 : a * u = p) (h2 : b * v = q) (h3 : c * w = u - v) : a * b * c * w = b * p - a * q := by
  have : a * b * c * w = a * b * (c * w) := by grind
  rw [this, h3]
  have : a * b * (u - v) = b * (a * u) - a * (b * v) := by grind
  rw [this, h1, h2]
theorem braid (x y z p0 p1 p2 p12 p21 p121 al al2 al12 be be1 de ga ga1 ga2 ga21 ep ep2 : Int) (hxy : x - y ≠ 0) (hxz : x - z ≠ 0) (hyz : y - z ≠ 0)
  (h1 : (x - y) * al = p0 - p1) (h2 : (x - z) * al2 = p2 - p21) (h3 : (y - z) * al12 = p12 - p121)
  (h4 : (y - z) * be = al - al2) (h5 : (x - z) * be1 = al - al12) (h6 : (x - y) * de = be - be1)
  (g1 : (y - z) * ga = p0 - p2) (g2 : (x - z) * ga1 = p1 - p12) (g3 : (x - y) * ga21 = p21 - p121)
  (g4 : (x - y) * ep = ga - ga1) (g5 : (x - z) * ep2 = ga - ga21) : (y - z) * de = ep - ep2 := by
  have e1 := step2 h1 h2 h4 (r := 0) (s := 0)
  have e2 := step2 h1 h3 h5 (r := 0) (s := 0)
  have e3 := step2 g1 g2 g4 (r := 0) (s := 0)
  have e4 := step2 g1 g3 g5 (r := 0) (s := 0)
  clear h1 h2 h3 h4 h5 g1 g2 g3 g4 g5
  have d1 : (x - y) * (x - z) * (y - z) * ((x - y) * de) = (x - y) * (p0 - p1 - p2 + p12 + p21 - p121) := by
    rw [h6]
    have : (x - y) * (x - z) * (y - z) * (be - be1) = (x - y) * (x - z) * (y - z) * be - (x - y) * (y - z) * (x - z) * be1 := by grind
    rw [this, e1, e2]
    grind
  have d2 : (x - y) * (x - z) * (y - z) * (ep - ep2) = (y - z) * (p0 - p1 - p2 + p12 + p21 - p121) := by
    have : (x - y) * (x - z) * (y - z) * (ep - ep2) = (y - z) * (x - z) * (x - y) * ep - (y - z) * (x - y) * (x - z) * ep2 := by grind
    rw [this, e3, e4]
    grind
  clear e1 e2 e3 e4 h6
  have c1 : (x - y) * (x - z) * (y - z) * de = p0 - p1 - p2 + p12 + p21 - p121 := by
    have : (x - y) * ((x - y) * (x - z) * (y - z) * de - (p0 - p1 - p2 + p12 + p21 - p121)) = 0 := by
      have t : ∀ A p : Int, (x - y) * (A * de - p) = A * ((x - y) * de) - (x - y) * p := fun A p => by grind
      rw [t, d1]; omega
    have := cancel hxy this
    omega
  have c2 : (x - y) * (x - z) * (ep - ep2) = p0 - p1 - p2 + p12 + p21 - p121 := by
    have : (y - z) * ((x - y) * (x - z) * (ep - ep2) - (p0 - p1 - p2 + p12 + p21 - p121)) = 0 := by
      have t : ∀ A p : Int, (y - z) * (A * (ep - ep2) - p) = A * (y - z) * (ep - ep2) - (y - z) * p := fun A p => by grind
      rw [t, d2]; omega
    have := cancel hyz this
    omega
  have : (x - y) * ((x - z) * ((y - z) * de - (ep - ep2))) = 0 := by
    have t : (x - y) * ((x - z) * ((y - z) * de - (ep - ep2))) = (x - y) * (x - z) * (y - z) * de - (x - y) * (x - z) * (ep - ep2) := by grind
    rw [t, c1, c2]; omega
  have := cancel hxz (cancel hxy this)
  omega

end Go.Proofs.Ytllmhicmikpfeaa

namespace Go.Proofs.Ytllmhicmikpfeaa
set_option linter.all false
set_option maxRecDepth 100000
open Go.RowKit

/-! ### alike but for multiples of N -/
def Mg (N a b : Int) : Prop := ∃ m, a = b + N * m
theorem Mg.refl (N a : Int) : Mg N a a := ⟨0, by simp⟩
theorem Mg.symm {N a b : Int} (h : Mg N a b) : Mg N b a := by
  obtain ⟨m, rfl⟩ := h
  exact ⟨-m, by rw [Int.mul_neg]; omega⟩
theorem Mg.trans {N a b c : Int} (h : Mg N a b) (h' : Mg N b c) : Mg N a c := by
  obtain ⟨m, rfl⟩ := h
  obtain ⟨m', rfl⟩ := h'
  exact ⟨m' + m, by rw [Int.mul_add]; omega⟩
theorem Mg.add {N a b c e : Int} (h : Mg N a b) (h' : Mg N c e) : Mg N (a + c) (b + e) := by
  obtain ⟨m, rfl⟩ := h
  obtain ⟨m', rfl⟩ := h'
  exact ⟨m + m', by rw [Int.mul_add]; omega⟩
theorem Mg.mul {N a b c e : Int} (h : Mg N a b) (h' : Mg N c e) : Mg N (a * c) (b * e) := by
  obtain ⟨m, rfl⟩ := h
  obtain ⟨m', rfl⟩ := h'
  refine ⟨m * e + b * m' + N * m * m', ?_⟩
  grind
theorem Mg.neg {N a b : Int} (h : Mg N a b) : Mg N (-a) (-b) := by
  obtain ⟨m, rfl⟩ := h
  exact ⟨-m, by rw [Int.mul_neg]; omega⟩
theorem Mg.sub {N a b c e : Int} (h : Mg N a b) (h' : Mg N c e) : Mg N (a - c) (b - e) := by
  have := h.add h'.neg
  rw [Int.sub_eq_add_neg, Int.sub_eq_add_neg]
  exact this
theorem Mg.pow {N a b : Int} (h : Mg N a b) : ∀ n : Nat, Mg N (a ^ n) (b ^ n)
  | 0 => by rw [Int.pow_zero, Int.pow_zero]; exact Mg.refl _ _
  | n + 1 => by rw [Int.pow_succ, Int.pow_succ]; exact (Mg.pow h n).mul h
/-- a number that is a multiple of all great numbers is 0 -/
theorem Mg.zero {D : Int} (c : Int) (h : ∀ N, c < N → 0 < N → Mg N D 0) : D = 0 := by
  obtain ⟨K, h1, h2, h3, h4⟩ : ∃ K : Int, c < K ∧ 0 < K ∧ D < K ∧ -D < K := ⟨1 + (c.natAbs : Int) + (D.natAbs : Int), by omega, by omega, by omega, by omega⟩
  obtain ⟨m, hm⟩ := h K h1 h2
  rcases Int.lt_trichotomy m 0 with h0 | h0 | h0
  · have := Int.mul_le_mul_of_nonneg_left (show m ≤ -1 by omega) (show 0 ≤ K by omega)
    rw [Int.mul_neg, Int.mul_one] at this
    omega
  · rw [h0] at hm; simpa using hm
  · have := Int.mul_le_mul_of_nonneg_left (show 1 ≤ m by omega) (show 0 ≤ K by omega)
    rw [Int.mul_one] at this
    omega

theorem Ev_mg {N : Int} {g g' : List Int → Int} (h : ∀ e, Mg N (g e) (g' e)) : ∀ P : Pl, Mg N (Ev P g) (Ev P g')
  | [] => Mg.refl _ _
  | p :: l => ((Mg.refl N p.2).mul (h p.1)).add (Ev_mg h l)
theorem mono_mg {N : Int} {xs xs' : List Int} (h : ∀ i, Mg N (xs.getD i 0) (xs'.getD i 0)) (e : List Int) : Mg N (mono xs e) (mono xs' e) := by
  unfold mono
  have : ∀ n, Mg N (monoK xs e n) (monoK xs' e n) := fun n => by
    induction n with
    | zero => exact Mg.refl _ _
    | succ n ih => exact ih.mul ((h n).pow _)
  exact this 7
/-- two polynomials have values alike but for multiples of N -/
def PMg (N : Int) (P Q : Pl) : Prop := ∀ g, Mg N (Ev P g) (Ev Q g)
theorem PMg.dv {N : Int} {P Q : Pl} (h : PMg N P Q) (k : Nat) : PMg N (dvP k P) (dvP k Q) := fun g => by
  rw [Ev_dv, Ev_dv]; exact h _
theorem PMg.low {N : Int} {P Q : Pl} (h : PMg N P Q) : ∀ f xs, PMg N (lowP f xs P) (lowP f xs Q)
  | 0, _ => h
  | f + 1, xs => by
    rw [lowP, lowP]
    cases fasc xs with
    | none => exact h
    | some k => exact (PMg.low h f _).dv k
theorem PMg.top {N : Int} {ys ys' : List Int} (h : ∀ i, Mg N (ys.getD i 0) (ys'.getD i 0)) (n : Nat) : ∀ i, PMg N (topI n ys i) (topI n ys' i)
  | 0 => fun g => Mg.refl _ _
  | i + 1 => by
    rw [topI, topI]
    have : ∀ m, PMg N (topJ i ys m (topI n ys i)) (topJ i ys' m (topI n ys' i)) := fun m => by
      induction m with
      | zero => exact PMg.top h n i
      | succ m ih =>
        intro g
        rw [topJ, topJ, Ev_append, Ev_append, Ev_rs, Ev_rs, Ev_scl, Ev_scl, Ev_mul, Ev_mul]
        exact (ih _).add ((h m).neg.mul (ih g))
    exact this _

/-! ### exponents are not below 0 -/
def Pos7 (P : Pl) : Prop := ∀ p ∈ P, p.1.length = 7 ∧ ∀ x ∈ p.1, (0 : Int) ≤ x
theorem list7 {e : List Int} (h : e.length = 7) : ∃ a0 a1 a2 a3 a4 a5 a6, e = [a0, a1, a2, a3, a4, a5, a6] := by
  match e, h with
  | [a0, a1, a2, a3, a4, a5, a6], _ => exact ⟨a0, a1, a2, a3, a4, a5, a6, rfl⟩

theorem tele (X Y : Int) (b : Nat) : ∀ (m a : Nat), m ≤ a →
    (X - Y) * ((List.range m).foldl (fun s j => s + X ^ (a - 1 - j) * Y ^ (b + j)) 0) = X ^ a * Y ^ b - X ^ (a - m) * Y ^ (b + m)
  | 0, a, _ => by simp
  | m + 1, a, h => by
    rw [List.range_succ, List.foldl_append, List.foldl_cons, List.foldl_nil, Int.mul_add, tele X Y b m a (by omega)]
    have e1 : a - m = (a - 1 - m) + 1 := by omega
    have e2 : a - (m + 1) = a - 1 - m := by omega
    have e3 : b + (m + 1) = (b + m) + 1 := by omega
    rw [e1, e2, e3, Int.pow_succ X, Int.pow_succ Y]
    grind
theorem Ev_range (f : Nat → List Int) (c : Int) (g : List Int → Int) (n : Nat) : Ev ((List.range n).map fun j => (f j, c)) g = c * (List.range n).foldl (fun s j => s + g (f j)) 0 := by
  induction n with
  | zero => simp [Ev]
  | succ n ih => rw [List.range_succ, List.map_append, Ev_append, ih, List.foldl_append]; simp [Ev, Int.mul_add]
theorem fold_mul (R : Int) (f g : Nat → Int) (n : Nat) (h : ∀ j, j < n → f j = R * g j) : (List.range n).foldl (fun s j => s + f j) 0 = R * (List.range n).foldl (fun s j => s + g j) 0 := by
  induction n with
  | zero => simp
  | succ n ih =>
    rw [List.range_succ, List.foldl_append, List.foldl_append, List.foldl_cons, List.foldl_cons, List.foldl_nil, List.foldl_nil, ih (fun j hj => h j (by omega)), h n (by omega), Int.mul_add]
/-- the monomial with two places told apart -/
theorem mono_two {xs e : List Int} {k : Nat} (hk : k < 4) (he : e.length = 7) (hx : xs.length = 7) : ∃ R : Int, ∀ (s t X Y : Int),
    mono ((xs.set (k + 1) Y).set k X) ((e.set (k + 1) t).set k s) = R * (X ^ s.toNat * Y ^ t.toNat) := by
  obtain ⟨a0, a1, a2, a3, a4, a5, a6, rfl⟩ := list7 he
  obtain ⟨x0, x1, x2, x3, x4, x5, x6, rfl⟩ := list7 hx
  have : k = 0 ∨ k = 1 ∨ k = 2 ∨ k = 3 := by omega
  rcases this with rfl | rfl | rfl | rfl
  · refine ⟨x2 ^ a2.toNat * x3 ^ a3.toNat * x4 ^ a4.toNat * x5 ^ a5.toNat * x6 ^ a6.toNat, fun s t X Y => ?_⟩
    simp [mono, monoK]; ac_rfl
  · refine ⟨x0 ^ a0.toNat * x3 ^ a3.toNat * x4 ^ a4.toNat * x5 ^ a5.toNat * x6 ^ a6.toNat, fun s t X Y => ?_⟩
    simp [mono, monoK]; ac_rfl
  · refine ⟨x0 ^ a0.toNat * x1 ^ a1.toNat * x4 ^ a4.toNat * x5 ^ a5.toNat * x6 ^ a6.toNat, fun s t X Y => ?_⟩
    simp [mono, monoK]; ac_rfl
  · refine ⟨x0 ^ a0.toNat * x1 ^ a1.toNat * x2 ^ a2.toNat * x5 ^ a5.toNat * x6 ^ a6.toNat, fun s t X Y => ?_⟩
    simp [mono, monoK]; ac_rfl
theorem set_two {xs : List Int} {k : Nat} (hk : k + 1 < xs.length) : (xs.set (k + 1) (xs.getD (k + 1) 0)).set k (xs.getD k 0) = xs := by
  have a : ∀ j, j < xs.length → xs.set j (xs.getD j 0) = xs := fun j hj => by rw [getD_lt hj, List.set_getElem_self]
  rw [a (k + 1) hk, a k (by omega)]
theorem swap_set {xs : List Int} {k : Nat} (hk : k + 1 < xs.length) : swapL xs k (k + 1) = (xs.set (k + 1) (xs.getD k 0)).set k (xs.getD (k + 1) 0) := by
  unfold swapL
  rw [List.set_comm _ _ (by omega)]

theorem dvE_val {xs e : List Int} {k : Nat} (hk : k < 4) (he : e.length = 7) (hp : ∀ x ∈ e, (0 : Int) ≤ x) (hx : xs.length = 7) :
    (xs.getD k 0 - xs.getD (k + 1) 0) * Ev (dvE k e) (mono xs) = mono xs e - mono (swapL xs k (k + 1)) e := by
  obtain ⟨R, hR⟩ := mono_two (xs := xs) hk he hx
  obtain ⟨a, ha⟩ : ∃ a : Nat, e.getD k 0 = (a : Int) := ⟨(e.getD k 0).toNat, by have := hp _ (getD_mem (show k < e.length by omega)); omega⟩
  obtain ⟨b, hb⟩ : ∃ b : Nat, e.getD (k + 1) 0 = (b : Int) := ⟨(e.getD (k + 1) 0).toNat, by have := hp _ (getD_mem (show k + 1 < e.length by omega)); omega⟩
  have e1 : mono xs e = R * (xs.getD k 0 ^ a * xs.getD (k + 1) 0 ^ b) := by
    have := hR a b (xs.getD k 0) (xs.getD (k + 1) 0)
    rw [set_two (by omega), ← ha, ← hb, set_two (by omega), ha, hb] at this
    simpa using this
  have e2 : mono (swapL xs k (k + 1)) e = R * (xs.getD (k + 1) 0 ^ a * xs.getD k 0 ^ b) := by
    have := hR a b (xs.getD (k + 1) 0) (xs.getD k 0)
    rw [← swap_set (by omega), ← ha, ← hb, set_two (by omega), ha, hb] at this
    simpa using this
  have e3 : ∀ s t : Int, mono xs (dvS k e s t) = R * (xs.getD k 0 ^ (s - 1 - t).toNat * xs.getD (k + 1) 0 ^ t.toNat) := fun s t => by
    have := hR (s - 1 - t) t (xs.getD k 0) (xs.getD (k + 1) 0)
    rw [set_two (by omega)] at this
    exact this
  rw [e1, e2]
  obtain ⟨X, hX⟩ : ∃ X, X = xs.getD k 0 := ⟨_, rfl⟩
  obtain ⟨Y, hY⟩ : ∃ Y, Y = xs.getD (k + 1) 0 := ⟨_, rfl⟩
  rw [← hX, ← hY] at e3 ⊢
  by_cases hab : e.getD k 0 < e.getD (k + 1) 0
  · rw [dvE_le hab, dvK, Ev_range, ha, hb]
    have hn : ((b : Int) - (a : Int)).toNat = b - a := by omega
    rw [hn, fold_mul R _ (fun j => Y ^ (a + j) * X ^ (b - 1 - j)) _ (fun j hj => by
      rw [e3]
      have h1 : ((a : Int) + (b : Int) - 1 - ((a : Int) + (j : Int))).toNat = b - 1 - j := by omega
      have h2 : ((a : Int) + (j : Int)).toNat = a + j := by omega
      rw [h1, h2, Int.mul_comm (X ^ _)])]
    have t := tele X Y a (b - a) b (by omega)
    have h3 : b - (b - a) = a := by omega
    have h4 : a + (b - a) = b := by omega
    rw [h3, h4] at t
    have h5 : ((List.range (b - a)).foldl (fun s j => s + Y ^ (a + j) * X ^ (b - 1 - j)) 0) = (List.range (b - a)).foldl (fun s j => s + X ^ (b - 1 - j) * Y ^ (a + j)) 0 := by
      congr 1; funext s j; rw [Int.mul_comm (Y ^ _)]
    rw [h5]
    obtain ⟨S, hS⟩ : ∃ S, S = (List.range (b - a)).foldl (fun s j => s + X ^ (b - 1 - j) * Y ^ (a + j)) 0 := ⟨_, rfl⟩
    rw [← hS] at t ⊢
    have : (X - Y) * (-1 * (R * S)) = -(R * ((X - Y) * S)) := by grind
    rw [this, t]
    grind
  · rw [dvE_ge hab, dvK, Ev_range, ha, hb]
    have hn : ((a : Int) - (b : Int)).toNat = a - b := by omega
    rw [hn, fold_mul R _ (fun j => X ^ (a - 1 - j) * Y ^ (b + j)) _ (fun j hj => by
      rw [e3]
      have h1 : ((b : Int) + (a : Int) - 1 - ((b : Int) + (j : Int))).toNat = a - 1 - j := by omega
      have h2 : ((b : Int) + (j : Int)).toNat = b + j := by omega
      rw [h1, h2])]
    have t := tele X Y b (a - b) a (by omega)
    have h3 : a - (a - b) = b := by omega
    have h4 : b + (a - b) = a := by omega
    rw [h3, h4] at t
    obtain ⟨S, hS⟩ : ∃ S, S = (List.range (a - b)).foldl (fun s j => s + X ^ (a - 1 - j) * Y ^ (b + j)) 0 := ⟨_, rfl⟩
    rw [← hS] at t ⊢
    have : (X - Y) * (1 * (R * S)) = R * ((X - Y) * S) := by grind
    rw [this, t]
    grind
theorem dv_val {xs : List Int} {k : Nat} (hk : k < 4) (hx : xs.length = 7) : ∀ {P : Pl}, Pos7 P →
    (xs.getD k 0 - xs.getD (k + 1) 0) * Ev (dvP k P) (mono xs) = Ev P (mono xs) - Ev P (mono (swapL xs k (k + 1)))
  | [], _ => by simp [dvP, Ev]
  | p :: l, h => by
    have ih := dv_val hk hx (P := l) fun q hq => h q (List.mem_cons_of_mem _ hq)
    have hp := h p List.mem_cons_self
    have := dvE_val hk hp.1 hp.2 hx
    rw [Ev_dv] at ih ⊢
    simp only [Ev] at ih ⊢
    rw [Int.mul_add, ih, Int.mul_left_comm, this]
    grind

/-! ### the polynomials have exponents that are not below 0 -/
theorem Pos7.append {P Q : Pl} (h : Pos7 P) (h' : Pos7 Q) : Pos7 (P ++ Q) := fun p hp => (List.mem_append.1 hp).elim (h p) (h' p)
theorem Pos7.scl {P : Pl} (h : Pos7 P) (k : Int) : Pos7 (sclP k P) := fun p hp => by
  obtain ⟨q, hq, rfl⟩ := List.mem_map.1 hp
  exact h q hq
theorem Pos7.rs {P : Pl} (h : Pos7 P) (i : Nat) : Pos7 (rsP i P) := fun p hp => by
  obtain ⟨q, hq, rfl⟩ := List.mem_map.1 hp
  refine ⟨by simpa [rsE] using (h q hq).1, fun x hx => ?_⟩
  rcases List.mem_or_eq_of_mem_set hx with hx | rfl
  · exact (h q hq).2 x hx
  · by_cases hi : i < q.1.length
    · have := (h q hq).2 _ (getD_mem hi); omega
    · rw [List.getD_eq_getElem?_getD, List.getElem?_eq_none (by omega)]; simp
theorem Pos7.dv {P : Pl} (h : Pos7 P) {k : Nat} (hk : k < 4) : Pos7 (dvP k P) := fun p hp => by
  obtain ⟨q, hq, hp⟩ := List.mem_flatMap.1 hp
  obtain ⟨r, hr, rfl⟩ := List.mem_map.1 hp
  have hq' := h q hq
  have h1 := hq'.2 _ (getD_mem (show k < q.1.length by omega))
  have h2 := hq'.2 _ (getD_mem (show k + 1 < q.1.length by omega))
  have key : ∀ s t : Int, 0 ≤ t → t ≤ s - 1 → (dvS k q.1 s t).length = 7 ∧ ∀ x ∈ dvS k q.1 s t, (0 : Int) ≤ x := fun s t ht hs => by
    refine ⟨by simpa [dvS] using hq'.1, fun x hx => ?_⟩
    rcases List.mem_or_eq_of_mem_set hx with hx | rfl
    · rcases List.mem_or_eq_of_mem_set hx with hx | rfl
      · exact hq'.2 x hx
      · exact ht
    · omega
  by_cases hab : q.1.getD k 0 < q.1.getD (k + 1) 0
  · rw [dvE_le hab] at hr
    obtain ⟨j, hj, rfl⟩ := List.mem_map.1 hr
    have := List.mem_range.1 hj
    exact key _ _ (by omega) (by omega)
  · rw [dvE_ge hab] at hr
    obtain ⟨j, hj, rfl⟩ := List.mem_map.1 hr
    have := List.mem_range.1 hj
    exact key _ _ (by omega) (by omega)
theorem fasc_lt {xs : List Int} {k : Nat} (h : fasc xs = some k) : k < xs.length - 1 ∧ xs.getD k 0 < xs.getD (k + 1) 0 ∧ ∀ j, j < k → ¬ xs.getD j 0 < xs.getD (j + 1) 0 := by
  unfold fasc at h
  rw [List.find?_range_eq_some] at h
  obtain ⟨h1, h2, h3⟩ := h
  exact ⟨by simpa using h2, by simpa using h1, fun j hj => by simpa using h3 j hj⟩
theorem Pos7.low {P : Pl} (h : Pos7 P) : ∀ f xs, xs.length ≤ 5 → Pos7 (lowP f xs P)
  | 0, _, _ => h
  | f + 1, xs, hx => by
    rw [lowP]
    cases hf : fasc xs with
    | none => exact h
    | some k => exact (Pos7.low h f _ (by rw [swapL_length]; exact hx)).dv (by have := (fasc_lt hf).1; omega)
theorem Pos7.top (n : Nat) (ys : List Int) : ∀ i, Pos7 (topI n ys i)
  | 0 => fun p hp => by
    obtain rfl := List.mem_singleton.1 hp
    exact ⟨rfl, by simp⟩
  | i + 1 => by
    rw [topI]
    have : ∀ m, Pos7 (topJ i ys m (topI n ys i)) := fun m => by
      induction m with
      | zero => exact Pos7.top n ys i
      | succ m ih => exact (ih.rs i).append (ih.scl _)
    exact this _
/-- the fuel does not matter -/
theorem low_more {P : Pl} : ∀ f g xs, lowOk f xs = true → f ≤ g → lowP g xs P = lowP f xs P
  | 0, 0, _, _, _ => rfl
  | 0, g + 1, xs, h, _ => by
    unfold lowOk at h
    have : fasc xs = none := by simpa using h
    show (match fasc xs with | none => P | some k => dvP k (lowP g (swapL xs k (k + 1)) P)) = P
    rw [this]
  | f + 1, 0, _, _, hg => by omega
  | f + 1, g + 1, xs, h, hg => by
    rw [lowP, lowP]
    unfold lowOk at h
    cases hf : fasc xs with
    | none => rfl
    | some k => rw [hf] at h; dsimp only at h ⊢; rw [low_more f g _ h (by omega)]

end Go.Proofs.Ytllmhicmikpfeaa

namespace Go.Proofs.Ytllmhicmikpfeaa
set_option linter.all false
set_option maxRecDepth 100000
open Go.RowKit

def lowB (v : List Int) : Bool := lowOk 10 v
def farB (v : List Int) : Bool := (List.range (v.length - 1)).all fun j => (List.range (v.length - 1)).all fun k =>
  !(ascB j v && ascB k v && decide (j + 2 ≤ k)) || (ascB k (sw j v) && ascB j (sw k v) && decide (sw k (sw j v) = sw j (sw k v)))
def nearB (v : List Int) : Bool := (List.range (v.length - 2)).all fun j =>
  !(ascB j v && ascB (j + 1) v) || (ascB (j + 1) (sw j v) && ascB j (sw (j + 1) (sw j v)) && ascB j (sw (j + 1) v) && ascB (j + 1) (sw j (sw (j + 1) v)) && decide (sw j (sw (j + 1) (sw j v)) = sw (j + 1) (sw j (sw (j + 1) v))))
set_option maxRecDepth 100000 in
theorem low_all : all5 lowB = true := by decide +kernel
set_option maxRecDepth 100000 in
theorem far_all : all5 farB = true := by decide +kernel
set_option maxRecDepth 100000 in
theorem near_all : all5 nearB = true := by decide +kernel
theorem P5.low {n : Nat} {v : List Int} (h : P5 n v) : lowOk 10 v = true := all5_at low_all h.ok (by have := h.len; have := h.le; omega)
theorem P5.far {n : Nat} {v : List Int} (h : P5 n v) {j k : Nat} (hk : k + 1 < n) (hjk : j + 2 ≤ k) (ha : ascB j v = true) (hb : ascB k v = true) :
    ascB k (Go.Proofs.Ytllmhicmikpfeaa.sw j v) = true ∧ ascB j (Go.Proofs.Ytllmhicmikpfeaa.sw k v) = true ∧ Go.Proofs.Ytllmhicmikpfeaa.sw k (Go.Proofs.Ytllmhicmikpfeaa.sw j v) = Go.Proofs.Ytllmhicmikpfeaa.sw j (Go.Proofs.Ytllmhicmikpfeaa.sw k v) := by
  have := all5_at far_all h.ok (by have := h.len; have := h.le; omega)
  simp only [farB, List.all_eq_true, List.mem_range] at this
  have := this j (by have := h.len; omega) k (by have := h.len; omega)
  rw [ha, hb] at this
  simpa [hjk, and_assoc] using this
theorem P5.near {n : Nat} {v : List Int} (h : P5 n v) {j : Nat} (hk : j + 2 < n) (ha : ascB j v = true) (hb : ascB (j + 1) v = true) :
    ascB (j + 1) (Go.Proofs.Ytllmhicmikpfeaa.sw j v) = true ∧ ascB j (Go.Proofs.Ytllmhicmikpfeaa.sw (j + 1) (Go.Proofs.Ytllmhicmikpfeaa.sw j v)) = true ∧ ascB j (Go.Proofs.Ytllmhicmikpfeaa.sw (j + 1) v) = true ∧ ascB (j + 1) (Go.Proofs.Ytllmhicmikpfeaa.sw j (Go.Proofs.Ytllmhicmikpfeaa.sw (j + 1) v)) = true ∧
      Go.Proofs.Ytllmhicmikpfeaa.sw j (Go.Proofs.Ytllmhicmikpfeaa.sw (j + 1) (Go.Proofs.Ytllmhicmikpfeaa.sw j v)) = Go.Proofs.Ytllmhicmikpfeaa.sw (j + 1) (Go.Proofs.Ytllmhicmikpfeaa.sw j (Go.Proofs.Ytllmhicmikpfeaa.sw (j + 1) v)) := by
  have := all5_at near_all h.ok (by have := h.len; have := h.le; omega)
  simp only [nearB, List.all_eq_true, List.mem_range] at this
  have := this j (by have := h.len; omega)
  rw [ha, hb] at this
  simpa [and_assoc] using this

end Go.Proofs.Ytllmhicmikpfeaa
