/-
  The shapes in a box as the program makes them, their sums, the numbers of spaces.
  Maps keyed by seven numbers: what a key is.
  What a map keyed by seven numbers adds up to, against a list of keys and numbers. Plain.
  A map keyed by seven numbers reads as a list of keys and numbers, up to multiples of 2^64. Plain.
  A map's entry asked for, and looked up again behind that.
  poly.add: a number added at a key of a map.
  Ranging over a map keyed by seven numbers; plus.
  plus: a polynomial and a multiple of another one.
-/
import Derived.Test.YtlbflckoodjokaaGreatJ5
import Derived.Test.YtlbflckoodjokaaGreatJ2
import Derived.Test.YtlbflckoodjokaaGreatChecked
import Derived.WideKeyArr
import Derived.WideKeyEntry
import Derived.Maps.RangeWalk
import Derived.Maps.OwnSet
import Derived.Maps.OwnOps
import Derived.WalkKit
import Derived.BigRegion
namespace Go.Proofs.YtlbflckoodjokaaGreat
set_option linter.all false
open Go.RowKit

def ishs : Nat → Nat → List (List Int)
  | 0, _ => [[]]
  | r + 1, m => [] :: (List.range m).flatMap fun (n : Nat) => (ishs r (n + 1)).map fun l => ((n : Int) + 1) :: l
theorem ishs_len : ∀ (r m : Nat), (ishs r m).length ≤ (m + 1) ^ r
  | 0, m => by simp [ishs]
  | r + 1, m => by
    rw [ishs, List.length_cons]
    have a : ∀ k, k ≤ m → ((List.range k).flatMap fun (n : Nat) => (ishs r (n + 1)).map fun l => ((n : Int) + 1) :: l).length ≤ k * (m + 1) ^ r := by
      intro k
      induction k with
      | zero => intro _; simp
      | succ k ih =>
        intro hk
        rw [flatMap_snoc, List.length_append, Nat.succ_mul, List.length_map]
        have a := ih (by omega)
        have b := ishs_len r (k + 1)
        have c : (k + 1 + 1) ^ r ≤ (m + 1) ^ r := Nat.pow_le_pow_left (by omega) r
        omega
    have a := a m (Nat.le_refl m)
    have b : 1 ≤ (m + 1) ^ r := Nat.one_le_pow _ _ (by omega)
    rw [Nat.pow_succ, Nat.mul_add]
    rw [Nat.mul_comm ((m + 1) ^ r) m]
    omega
theorem ishs_len' (r m k : Nat) (hk : k ≤ m) : ((List.range k).flatMap fun (n : Nat) => (ishs r (n + 1)).map fun l => ((n : Int) + 1) :: l).length ≤ k * (m + 1) ^ r := by
  induction k with
  | zero => simp
  | succ k ih =>
    rw [flatMap_snoc, List.length_append, Nat.succ_mul, List.length_map]
    have a := ih (by omega)
    have b := ishs_len r (k + 1)
    have c : (k + 1 + 1) ^ r ≤ (m + 1) ^ r := Nat.pow_le_pow_left (by omega) r
    omega
theorem ishs_short : ∀ (r m : Nat), ∀ l ∈ ishs r m, l.length ≤ r
  | 0, m, l, h => by simp [ishs] at h; simp [h]
  | r + 1, m, l, h => by
    rw [ishs, List.mem_cons] at h
    rcases h with rfl | h
    · simp
    · obtain ⟨n, _, h⟩ := List.mem_flatMap.1 h
      obtain ⟨l', h', rfl⟩ := List.mem_map.1 h
      have := ishs_short r (n + 1) l' h'
      simp; omega
theorem take_snoc_map {α β : Type} (g : α → β) (L : List α) {j : Nat} (h : j < L.length) : (L.take (j + 1)).map g = (L.take j).map g ++ [g L[j]] := by
  rw [List.take_succ, List.getElem?_eq_getElem h, List.map_append]
  rfl

/-- a list with the empty list alone -/
theorem made_nil1 (w : World) : OwnII 22 3 ((w.alloc (.cells #[] 3)).alloc (.cells #[.slice (some ⟨w.heap.size, 0, none⟩) 0 0] 22)) w.heap.size (w.heap.size + 1 + 1) (.slice (some ⟨w.heap.size + 1, 0, none⟩) 1 1) [[]] := by
  refine ⟨fun _ => .slice (some ⟨w.heap.size, 0, none⟩) 0 0, ?_, fun i hi => ?_, fun i j hij hj => ?_⟩
  · have := (OwnF.made1 (w.alloc (.cells #[] 3)) 22 (.slice (some ⟨w.heap.size, 0, none⟩) 0 0)).mono (lo' := w.heap.size) (hi' := w.heap.size + 1 + 1) (by simp) (by simp)
    rw [size_alloc] at this
    exact this
  · obtain rfl : i = 0 := by simpa using hi
    exact ((OwnF.ints (xs := []) (OwnF.made0 w 3 (iv []))).below (below_alloc _ _)).mono (Nat.le_refl _) (by omega)
  · have : j = 0 := by simpa using hj
    omega

set_option maxRecDepth 100000 in
set_option maxHeartbeats 4000000 in
theorem shapesIn_go (r : Nat) : ∀ (R M : Int) (m : Nat) (w : World), R = (r : Int) → M = (m : Int) → m ≤ 100 → r ≤ 50 → (m + 1) ^ r ≤ 1000000 →
    Calls Tryz.prog 23 #[.int .i64 R, .int .i64 M] w (RetII w (ishs r m)) := by
  induction r with
  | zero =>
    intro R M m w hR hM h1 h2 h3
    subst hR
    clear h3
    have HM := Lib.hid (made_nil1 w)
    have HB := Lib.hid (below_alloc2 w (.cells #[] 3) (.cells #[.slice (some ⟨w.heap.size, 0, none⟩) 0 0] 22))
    go_enter Tryz.func23, Tryz.ntmps23
    go_wp2_with fail
    go_loopg [5, 6, 8] 0 (fun g s5 s6 s8 wr => Hid (OwnII 22 3 wr w.heap.size wr.heap.size s5 [[]]) ∧ Hid (Below w.heap.size w wr))
    case atStart => exact ⟨by have := HM.out.mono (hi' := ((w.alloc (.cells #[] 3)).alloc (.cells #[.slice (some ⟨w.heap.size, 0, none⟩) 0 0] 22)).heap.size) (Nat.le_refl _) (by simp); exact Lib.hid this, HB⟩
    case round =>
      obtain ⟨ho, hb⟩ := hrel
      obtain ⟨p5, k5, rfl, _, _⟩ := ho.out.shape
      go_wp2_with fail
      go_ret
      exact ⟨_, rfl, ho.out, hb.out⟩
  | succ r ih =>
    intro R M m w hR hM h1 h2 h3
    subst hM
    obtain ⟨q, hq⟩ : ∃ q, q = (m + 1) ^ r := ⟨_, rfl⟩
    rw [Nat.pow_succ, ← hq, Nat.mul_comm, Nat.succ_mul] at h3
    have hp1 : 1 ≤ q := by rw [hq]; exact Nat.one_le_pow _ _ (by omega)
    have Hq := Lib.hid hq
    have Hmq := Lib.hid h3
    have Ih := Lib.hid ih
    have hR1 : 1 ≤ R := by omega
    have hR2 : R ≤ 100 := by omega
    have HR := Lib.hid hR
    have HM := Lib.hid (made_nil1 w)
    have HB := Lib.hid (below_alloc2 w (.cells #[] 3) (.cells #[.slice (some ⟨w.heap.size, 0, none⟩) 0 0] 22))
    clear hR hq h3 ih
    go_enter Tryz.func23, Tryz.ntmps23
    go_wp2_with fail
    go_loopg [5, 6, 8] m (fun g s5 s6 s8 wr => ∃ t : Nat, t ≤ m ∧ g = m - t ∧ s6 = .int .i64 ((t : Int) + 1) ∧ Hid (OwnII 22 3 wr w.heap.size wr.heap.size s5 ([] :: (List.range t).flatMap fun (n : Nat) => (ishs r (n + 1)).map fun l => ((n : Int) + 1) :: l)) ∧ Hid (Below w.heap.size w wr))
    case atStart => exact ⟨0, Nat.zero_le _, rfl, by go_num, by have := HM.out.mono (hi' := ((w.alloc (.cells #[] 3)).alloc (.cells #[.slice (some ⟨w.heap.size, 0, none⟩) 0 0] 22)).heap.size) (Nat.le_refl _) (by simp); exact Lib.hid this, HB⟩
    case round =>
      obtain ⟨t, ht, rfl, rfl, ho, hb⟩ := hrel
      obtain ⟨wo, rfl⟩ : ∃ x : World, x = wr := ⟨_, rfl⟩
      have hsw := hb.out.size
      obtain ⟨L, hL⟩ : ∃ L, L = [] :: (List.range t).flatMap fun (n : Nat) => (ishs r (n + 1)).map fun l => ((n : Int) + 1) :: l := ⟨_, rfl⟩
      rw [← hL] at ho
      by_cases hlt : t < m
      · have hLn : ([] :: (List.range (t + 1)).flatMap fun (n : Nat) => (ishs r (n + 1)).map fun l => ((n : Int) + 1) :: l) = L ++ (ishs r (t + 1)).map fun l => ((t : Int) + 1) :: l := by
          rw [flatMap_snoc, hL, List.cons_append]
        have hp : (t + 1 + 1) ^ r ≤ q := by rw [Hq.out]; exact Nat.pow_le_pow_left (by omega) r
        have hLl : L.length + q ≤ 1000000 := by
          have a := ishs_len' r m t (by omega)
          rw [← Hq.out] at a
          have c : t * q ≤ (m - 1) * q := Nat.mul_le_mul_right q (by omega)
          have d : m * q = (m - 1) * q + q := by rw [← Nat.succ_mul]; congr 1; omega
          have e := Hmq.out
          rw [hL, List.length_cons]
          omega
        have HLn := Lib.hid hLn
        have HLl := Lib.hid hLl
        have Hp := Lib.hid hp
        have Ho := Lib.hid ho.out
        have Hb := Lib.hid hb.out
        obtain ⟨p3, k3, rfl, _, _⟩ := ho.out.shape
        have ht1 : (t : Int) + 1 ≤ (m : Int) := by omega
        clear hL hLn hLl hp ho hb
        go_wp2_with fail
        refine (Ih.out _ _ (t + 1) _ (by have := HR.out; omega) (by omega) (by omega) (by omega) (by have := Hp.out; have := Hmq.out; omega)).mono ?_
        rintro e w1 ⟨u, rfl, hou, hbu⟩
        obtain ⟨N, hN⟩ : ∃ N, N = ishs r (t + 1) := ⟨_, rfl⟩
        have hNl : N.length ≤ q := by rw [hN]; exact Nat.le_trans (ishs_len r (t + 1)) Hp.out
        have hNs : ∀ l ∈ N, l.length ≤ r := by rw [hN]; exact ishs_short r (t + 1)
        rw [← hN] at hou
        have HN := Lib.hid hN
        have HNl := Lib.hid hNl
        have HNs := Lib.hid hNs
        have Hbu := Lib.hid hbu
        have hsu := hbu.size
        obtain ⟨pu, ku, rfl, hku, hku2⟩ := hou.shape
        unfold maxLen at hku2
        obtain ⟨G, j1, j2, j3⟩ := hou
        have J1 := Lib.hid j1
        have J2 := Lib.hid j2
        have HBo := Lib.hid (Hb.out.trans (hbu.mono hsw))
        have Hw1 := Lib.hid (show ∀ b, (Value.slice p3 L.length k3).ownBlock = some b → b < wo.heap.size ∨ w1.heap.size ≤ b from fun b hb => by
          obtain ⟨F, q1, _⟩ := Ho.out
          exact .inl (q1.blocks b hb).2)
        have Ho1 := Lib.hid ((Ho.out.below hbu).mono (Nat.le_refl _) hsu)
        have hs0 : w.heap.size ≤ w1.heap.size := by omega
        clear hN hNl hNs hbu j1 j2 j3 Hb Ho
        go_wp2_with fail
        go_loopg [5, 8, 25] N.length (fun g s5 s8 s25 wr => ∃ j : Nat, j ≤ N.length ∧ g = N.length - j ∧ s25 = .int .i64 j ∧ Hid (OwnII 22 3 wr w.heap.size wr.heap.size s5 (L ++ (N.take j).map fun l => ((t : Int) + 1) :: l)) ∧ Hid (Below w.heap.size w wr ∧ w1.heap.size ≤ wr.heap.size ∧ ∀ b, s5.ownBlock = some b → b < wo.heap.size ∨ w1.heap.size ≤ b) ∧ Hid (OwnF wr wo.heap.size w1.heap.size 22 (.slice pu N.length ku) N.length G) ∧ Hid (∀ i, i < N.length → OwnI 3 wr wo.heap.size w1.heap.size (G i) (N.getD i [])))
        case atStart => exact ⟨0, Nat.zero_le _, rfl, rfl, by rw [List.take_zero, List.map_nil, List.append_nil]; exact Ho1, Lib.hid ⟨HBo.out, Nat.le_refl _, Hw1.out⟩, J1, J2⟩
        case round =>
          obtain ⟨j, hj, rfl, rfl, ho, hb, hg, hgi⟩ := hrel
          obtain ⟨w2, rfl⟩ : ∃ x : World, x = wr := ⟨_, rfl⟩
          have hs2 := hb.out.2.1
          have hs9 := hb.out.1.size
          obtain ⟨K, hK⟩ : ∃ K, K = L ++ (N.take j).map fun l => ((t : Int) + 1) :: l := ⟨_, rfl⟩
          have hKl : K.length = L.length + j := by rw [hK, List.length_append, List.length_map, List.length_take]; omega
          rw [← hK] at ho
          by_cases hjl : j < N.length
          · have hKn : L ++ (N.take (j + 1)).map (fun l => ((t : Int) + 1) :: l) = K ++ [((t : Int) + 1) :: N.getD j []] := by
              rw [take_snoc_map _ _ hjl, hK, List.append_assoc, List.getD_eq_getElem?_getD, List.getElem?_eq_getElem hjl]
              rfl
            obtain ⟨x, hx⟩ : ∃ x, x = N.getD j [] := ⟨_, rfl⟩
            have hxl : x.length ≤ 50 := by
              have := HNs.out x (by rw [hx, List.getD_eq_getElem?_getD, List.getElem?_eq_getElem hjl]; exact List.getElem_mem hjl)
              omega
            have hrow := hgi.out j hjl
            rw [← hx] at hKn hrow
            obtain ⟨pj, kj, ej, _, _⟩ := hrow.shape
            rw [ej] at hrow
            obtain ⟨g0, hg0, hgl, hgh, hgs⟩ := hg.out.at_ (by omega)
            subst hg0
            have c0 := hg.out.cell hjl
            rw [ej] at c0
            obtain ⟨n, hn⟩ : ∃ n, n = x.length := ⟨_, rfl⟩
            have Hrd := Lib.hid (show Rd w2 (.slice pj n kj) n (iv x) by rw [hn]; exact hrow.ints)
            rw [← hn] at hxl c0
            have Hn := Lib.hid hn
            have HKn := Lib.hid hKn
            have Hgi := Lib.hid hgi.out
            have Hg := Lib.hid hg.out
            have Hb := Lib.hid hb.out
            have hju : (j : Int) < (N.length : Int) := by omega
            have hKs : K.length ≤ 1000000 := by have := HLl.out; have := HNl.out; omega
            obtain ⟨F, q1, q2, q3⟩ := ho.out
            have Q1 := Lib.hid q1
            have Q2 := Lib.hid q2
            have Q3 := Lib.hid q3
            obtain ⟨pK, kK, rfl, _, _⟩ := q1.shape
            have Hb1 := Lib.hid (show 1 + n ≤ maxLen by unfold maxLen; omega)
            have Hb2 := Lib.hid (show (1 + n) * 8 ≤ 140737488355328 by omega)
            have Hc1 := Lib.hid (show K.length + 1 ≤ maxLen by unfold maxLen; omega)
            have Hc2 := Lib.hid (show (K.length + 1) * 24 ≤ 140737488355328 by omega)
            clear hK hKl hKn hrow hx hn q1 q2 q3 ho hb hg hgi ej hKs
            go_wp2_with (at_builtin; first
              | (refine wpList_append_G rfl (.tmp 29) (.tmp 34) 42 rfl 22 (.slice none 0 0) 24 Tryz.underlying42 info_sl rfl w.heap.size w2.heap.size _ K.length F rfl ((Q1.out.below Hbx.out).below (below_alloc w3 _)) (by simp; omega) (by simp; omega) _ 1 _ rfl (rd_one _ _ _ rfl) (fun j _ => rfl) Hc1.out Hc2.out ?_; intro v5 w5 ho5 hg5 hw5)
              | go_must (refine wpList_append_F rfl (.tmp 31) (.tmp 32) 22 rfl 3 (.int .i64 0) 8 Tryz.underlying22 info_int rfl w2.heap.size (w2.heap.size + 1) _ 1 (fun _ => .int .i64 ((t : Int) + 1)) rfl (OwnF.made1 w2 3 _) (by rw [size_alloc]; omega) (by rw [size_alloc]; omega) _ n (iv x) rfl (Hrd.out.below (below_alloc w2 _)) (fun j _ => rfl) Hb1.out Hb2.out ?_; intro v3 w3 ho3 hg3; have hr3 := OwnI.cons1 Hn.out ho3; have hbx : Below w2.heap.size w2 w3 := (below_alloc w2 _).trans (grownBy_below hg3 (OwnF.made1 w2 3 (.int .i64 ((t : Int) + 1))).blocks (Nat.le_refl _) (by rw [size_alloc]; omega)); obtain ⟨p4, k4, rfl, _, _⟩ := hr3.shape; have Hr3 := Lib.hid hr3; have Hbx := Lib.hid hbx; have hs3 := hbx.size; clear hr3 hbx ho3 hg3))
            have hb5 := below_alloc w3 (.cells #[.slice p4 (((t : Int) + 1) :: x).length k4] 22)
            have hs5 := OwnII.snoc ((Q1.out.below Hbx.out).below hb5) (fun i hi => ((Q2.out i hi).below Hbx.out).below hb5) Q3.out (Hr3.out.below hb5) (by omega) (by omega) (by decide) hg5 (by have := hg5.size; simp at this; omega) (ho5.congr fun j hj => by by_cases e : j < K.length <;> simp [e])
            have hbw : w2.grownBy w5 (Value.slice pK K.length kK).ownBlock := grown_after (Hbx.out.trans (hb5.mono hs3)) hg5
            have hgr := hbw.size
            have hwhere : ∀ b, v5.ownBlock = some b → b < wo.heap.size ∨ w1.heap.size ≤ b := fun b hb' => by
              rcases hw5 b hb' with h | h
              · exact Hb.out.2.2 b h
              · right; simp at h; omega
            have hG5 := Hg.out.grown hbw fun k hk e => by
              have : g0 = k := by simpa [Value.ownBlock] using hk
              have := Hb.out.2.2 k e
              omega
            have hI5 : ∀ i, i < N.length → OwnI 3 w5 wo.heap.size w1.heap.size (G i) (N.getD i []) := fun i hi => (Hgi.out i hi).grownBy hbw Q1.out (by decide)
            have hB5 : Below w.heap.size w w5 := Hb.out.1.trans (grownBy_below hbw Q1.out.blocks (Nat.le_refl _) hs9)
            have HS5 := Lib.hid hs5
            have HW5 := Lib.hid hwhere
            have HG5 := Lib.hid hG5
            have HI5 := Lib.hid hI5
            have HB5 := Lib.hid hB5
            have hz5 : w1.heap.size ≤ w5.heap.size := by omega
            obtain ⟨p6, k6, rfl, _, _⟩ := hs5.shape
            clear hs5 hwhere hG5 hI5 hB5 hbw hg5 hw5 ho5 hb5
            go_wp2_with fail
            go_roundg (N.length - (j + 1))
            case measure => omega
            case rel => exact ⟨j + 1, by omega, rfl, by go_num, by rw [HKn.out]; exact HS5, Lib.hid ⟨HB5.out, hz5, HW5.out⟩, HG5, HI5⟩
          · obtain rfl : j = N.length := by omega
            have hju : ¬ (N.length : Int) < (N.length : Int) := by omega
            have HK := Lib.hid hK
            have Ho := Lib.hid ho.out
            obtain ⟨p6, k6, rfl, _, _⟩ := ho.out.shape
            clear ho hK hKl
            go_wp2_with fail
            go_roundg (m - (t + 1))
            case measure => omega
            case rel => exact ⟨t + 1, by omega, rfl, by go_num, by rw [HLn.out, ← HN.out, show (L ++ N.map fun l => ((t : Int) + 1) :: l) = K by rw [HK.out, List.take_length]]; exact Ho, Lib.hid hb.out.1⟩
      · have ht1 : ¬ (t : Int) + 1 ≤ (m : Int) := by omega
        obtain rfl : t = m := by omega
        have HL := Lib.hid hL
        have Ho := Lib.hid ho.out
        obtain ⟨p3, k3, rfl, _, _⟩ := ho.out.shape
        clear ho hL
        go_wp2_with fail
        go_ret
        exact ⟨_, rfl, by rw [ishs, ← HL.out]; exact Ho.out, hb.out⟩

/-! ### sums -/
def sumTo2 (xs : List Int) : Nat → Int
  | 0 => 0
  | k + 1 => sumTo2 xs k + xs.getD k 0
def sumI (xs : List Int) : Int := sumTo2 xs xs.length
def sumOk (xs : List Int) : Prop := xs.length ≤ 1000 ∧ ∀ k, k < xs.length → 0 ≤ xs.getD k 0 ∧ xs.getD k 0 ≤ 1000000
theorem sumTo2_rng {xs : List Int} (h : sumOk xs) : ∀ k, k ≤ xs.length → 0 ≤ sumTo2 xs k ∧ sumTo2 xs k ≤ k * 1000000
  | 0, _ => by simp [sumTo2]
  | k + 1, hk => by
    have a := sumTo2_rng h k (by omega)
    have b := h.2 k (by omega)
    rw [sumTo2]
    push_cast
    omega

end Go.Proofs.YtlbflckoodjokaaGreat

namespace Go.Proofs.YtlbflckoodjokaaGreat
set_option linter.all false
set_option maxRecDepth 100000
open Go.RowKit Go.Maps Go.WideMaps

/-- seven numbers as a key -/
def kls (e : List Int) : List Lit := e.map fun n => Lit.int .i64 n
def kv (e : List Int) : Value := .agg (e.map fun n => Value.int .i64 n).toArray
def kl (e : List Int) : Lit := .string (keyBytes (kls e))
/-- seven numbers, each from 0 to d -/
def K7 (d : Nat) (e : List Int) : Prop := e.length = 7 ∧ ∀ x ∈ e, 0 ≤ x ∧ x ≤ (d : Int)

theorem und56 : Tryz.prog.underlying 72 = some (.array 7 3) := by kernel_rfl
theorem und41 : Tryz.prog.underlying 62 = some (.map 72 3) := by kernel_rfl
theorem undI : Tryz.prog.underlying 3 = some (.int .i64) := by kernel_rfl
theorem arr7 : ArrKey Tryz.prog 72 3 7 := ⟨und56, by kernel_rfl, by kernel_rfl, by kernel_rfl⟩
theorem types_pos : ∃ m, Tryz.prog.types.size = m + 1 := ⟨Tryz.prog.types.size - 1, by have : 0 < Tryz.prog.types.size := of_decide_eq_true (by kernel_rfl); omega⟩
theorem klaw : Keyed Tryz.prog 72 := Keyed.of_law arr7.law
theorem zeroI (w : World) : (zeroValue 3).run Tryz.prog w = .ok (.int .i64 0) w := by kernel_rfl

theorem wf_of {d : Nat} {x : Int} (hd : d ≤ 1000000) (h : 0 ≤ x ∧ x ≤ (d : Int)) : (Lit.int .i64 x).wf = true := WalkArith.wf_i64 (by omega)
theorem keyOf_kv {e : List Int} {d : Nat} (h : K7 d e) (hd : d ≤ 1000000) : keyOf Tryz.prog 72 (kv e) = some (kl e) := by
  obtain ⟨hl, hr⟩ := h
  match e, hl with
  | [a, b, c, x, y, z, u], _ =>
    have wa := wf_of hd (hr a (by simp))
    have wb := wf_of hd (hr b (by simp))
    have wc := wf_of hd (hr c (by simp))
    have wx := wf_of hd (hr x (by simp))
    have wy := wf_of hd (hr y (by simp))
    have wz := wf_of hd (hr z (by simp))
    have wu := wf_of hd (hr u (by simp))
    have hkt := arr7.keyType types_pos
    obtain ⟨m, hm⟩ := types_pos
    unfold keyOf kv kl kls
    simp only [und56]
    rw [if_pos (by simp [hkt, Value.formed, und56, arr7.size]), hm]
    unfold Program.keyLits
    simp only [und56, Value.cells]
    rw [if_pos (by rw [arr7.size]; rfl), show List.range 7 = [0, 1, 2, 3, 4, 5, 6] from rfl]
    simp [arr7.one, Program.keyLits, undI, wa, wb, wc, wx, wy, wz, wu]
set_option maxRecDepth 100000 in
theorem kl_inj {e e' : List Int} {d d' : Nat} (h : K7 d e) (hd : d ≤ 1000000) (h' : K7 d' e') (hd' : d' ≤ 1000000) (hk : kl e = kl e') : e = e' := by
  have a := keyOf_kv h hd
  have b := keyOf_kv h' hd'
  rw [← hk] at b
  have := klaw.inj a b
  unfold kv at this
  injection this with this
  have := congrArg Array.toList this
  simp only [List.toList_toArray] at this
  exact (List.map_inj_right (fun x y hxy => by injection hxy)).1 this

end Go.Proofs.YtlbflckoodjokaaGreat

namespace Go.Proofs.YtlbflckoodjokaaGreat
set_option linter.all false
set_option maxRecDepth 100000
open Go.RowKit Go.Maps Go.WideMaps

abbrev DU := DataW Unit
def coef : DU → Int
  | .lit (.int _ c) => c
  | _ => 0
def SmL (h : Lit → Int) : List (Lit × DU) → Int
  | [] => 0
  | p :: l => coef p.2 * h p.1 + SmL h l
def SmD (D : DU) (h : Lit → Int) : Int := match D with
  | .map es => SmL h es
  | _ => 0
theorem SmL_perm (h : Lit → Int) {l l' : List (Lit × DU)} (hp : l.Perm l') : SmL h l = SmL h l' := by
  induction hp with
  | nil => rfl
  | cons x _ ih => simp only [SmL, ih]
  | swap x y l => simp only [SmL]; omega
  | trans _ _ a b => exact a.trans b
theorem SmL_split (h : Lit → Int) (f : Lit × DU → Bool) : ∀ l : List (Lit × DU), SmL h l = SmL h (l.filter f) + SmL h (l.filter fun p => !f p)
  | [] => rfl
  | p :: l => by
    have ih := SmL_split h f l
    cases hf : f p <;> simp [SmL, List.filter_cons, hf, ih] <;> omega
theorem find_one {l : List (Lit × DU)} {k : Lit} (hd : l.Pairwise fun p q => p.1 ≠ q.1) (hk : WideAt.IsKeyLit k) (h : Lit → Int) :
    SmL h (l.filter fun p => p.1.sameKey k) = coef ((DataW.map l).atKey k (.lit (.int .i64 0))) * h k := by
  induction l with
  | nil => simp [SmL, DataW.atKey, coef]
  | cons p l ih =>
    rw [List.pairwise_cons] at hd
    cases hs : p.1.sameKey k with
    | true =>
      have e := WideAt.sameKey_eq hs
      have hn : l.filter (fun p => p.1.sameKey k) = [] := by
        rw [List.filter_eq_nil_iff]
        intro q hq hqs
        exact hd.1 q hq (by rw [e, WideAt.sameKey_eq hqs])
      rw [List.filter_cons, if_pos hs, hn]
      simp [SmL, DataW.atKey, List.find?_cons, e, WideAt.sameKey_self hk]
    | false =>
      rw [List.filter_cons, if_neg (by rw [hs]; decide), ih hd.2]
      simp [DataW.atKey, List.find?_cons, hs]
theorem SmD_del {D : DU} (hD : Tidy D) {k : Lit} (hk : WideAt.IsKeyLit k) (h : Lit → Int) : SmD D h = SmD (D.del k) h + coef (D.atKey k (.lit (.int .i64 0))) * h k := by
  obtain ⟨es, rfl, hd⟩ := hD
  have := SmL_split h (fun p => p.1.sameKey k) es
  rw [find_one hd hk] at this
  show SmL h es = SmL h (es.filter fun p => !p.1.sameKey k) + _
  omega
theorem SmD_put {D : DU} (hD : Tidy D) {k : Lit} (h : Lit → Int) (d : DU) : SmD (D.put k d) h = SmD (D.del k) h + coef d * h k := by
  obtain ⟨es, rfl, hd⟩ := hD
  show SmL h (DataW.insert (k, d) (es.filter fun p => !p.1.sameKey k)) = SmL h (es.filter fun p => !p.1.sameKey k) + _
  rw [SmL_perm h (WideShapes.insert_perm _ _)]
  exact Int.add_comm _ _
theorem del_put {D : DU} (hD : Tidy D) {k : Lit} (hk : WideAt.IsKeyLit k) (h : Lit → Int) (d : DU) : SmD ((D.put k d).del k) h = SmD (D.del k) h := by
  have a := SmD_del (hD.put hk d) hk h
  rw [SmD_put hD h d, atKey_put_same hD.isMap hk] at a
  omega

/-! ### what is left of a map while it is ranged over -/
def SmK (D : DU) (left : Lit → Bool) (h : Lit → Int) : Int := match D with
  | .map es => SmL h (es.filter fun p => left p.1)
  | _ => 0
theorem SmK_all {D : DU} (hD : Tidy D) (hk : ∀ l, has D l = true → WideAt.IsKeyLit l) (hm : ∀ es, D = .map es → ∀ p ∈ es, WideAt.IsKeyLit p.1) (h : Lit → Int) : SmK D (has D) h = SmD D h := by
  obtain ⟨es, rfl, hd⟩ := hD
  show SmL h (es.filter fun p => has (.map es) p.1) = SmL h es
  rw [List.filter_eq_self.2]
  intro p hp
  exact List.any_eq_true.2 ⟨p, hp, WideAt.sameKey_self (hm es rfl p hp)⟩
theorem SmK_none {D : DU} {left : Lit → Bool} (hl : ∀ l, left l = false) (h : Lit → Int) : SmK D left h = 0 := by
  cases D <;> try rfl
  rename_i es
  show SmL h (es.filter fun p => left p.1) = 0
  rw [List.filter_eq_nil_iff.2 (fun p _ => by rw [hl]; decide)]
  rfl
theorem SmK_step {D : DU} (hD : Tidy D) {left : Lit → Bool} {k : Lit} (hk : WideAt.IsKeyLit k) (hl : left k = true) (h : Lit → Int) :
    SmK D left h = coef (D.atKey k (.lit (.int .i64 0))) * h k + SmK D (fun z => left z && !z.sameKey k) h := by
  obtain ⟨es, rfl, hd⟩ := hD
  show SmL h (es.filter fun p => left p.1) = _ + SmL h (es.filter fun p => left p.1 && !p.1.sameKey k)
  rw [SmL_split h (fun p => p.1.sameKey k) (es.filter fun p => left p.1), List.filter_filter, List.filter_filter, ← find_one hd hk]
  congr 1
  · congr 1
    apply List.filter_congr
    intro p _
    cases hs : p.1.sameKey k with
    | true => rw [WideAt.sameKey_eq hs, hl]; rfl
    | false => simp
  · congr 1
    apply List.filter_congr
    intro p _
    rw [Bool.and_comm]

end Go.Proofs.YtlbflckoodjokaaGreat

namespace Go.Proofs.YtlbflckoodjokaaGreat
set_option linter.all false
set_option maxRecDepth 100000
open Go.RowKit Go.Maps Go.WideMaps

abbrev Pl := List (List Int × Int)
/-- the sum over the entries -/
def Ev (P : Pl) (g : List Int → Int) : Int := match P with
  | [] => 0
  | p :: l => p.2 * g p.1 + Ev l g
theorem Ev_append (P Q : Pl) (g : List Int → Int) : Ev (P ++ Q) g = Ev P g + Ev Q g := by
  induction P with
  | nil => simp [Ev]
  | cons p l ih => simp only [List.cons_append, Ev, ih]; omega
def M64 : Int := 18446744073709551616
/-- alike but for multiples of 2^64 -/
def Cg (a b : Int) : Prop := ∃ m, a = b + M64 * m
theorem Cg.refl (a : Int) : Cg a a := ⟨0, by simp⟩
theorem Cg.of (a b : Int) (h : a = b) : Cg a b := h ▸ Cg.refl a
theorem Cg.symm {a b : Int} (h : Cg a b) : Cg b a := by
  obtain ⟨m, rfl⟩ := h
  exact ⟨-m, by rw [Int.mul_neg]; omega⟩
theorem Cg.trans {a b c : Int} (h : Cg a b) (h' : Cg b c) : Cg a c := by
  obtain ⟨m, rfl⟩ := h
  obtain ⟨m', rfl⟩ := h'
  exact ⟨m' + m, by rw [Int.mul_add]; omega⟩
theorem Cg.add {a b c e : Int} (h : Cg a b) (h' : Cg c e) : Cg (a + c) (b + e) := by
  obtain ⟨m, rfl⟩ := h
  obtain ⟨m', rfl⟩ := h'
  exact ⟨m + m', by rw [Int.mul_add]; omega⟩
theorem Cg.mul {a b c e : Int} (h : Cg a b) (h' : Cg c e) : Cg (a * c) (b * e) := by
  obtain ⟨m, rfl⟩ := h
  obtain ⟨m', rfl⟩ := h'
  refine ⟨m * e + b * m' + M64 * m * m', ?_⟩
  simp only [Int.add_mul, Int.mul_add, Int.mul_assoc, Int.mul_left_comm, Int.mul_comm]
  omega
theorem Cg.neg {a b : Int} (h : Cg a b) : Cg (-a) (-b) := by
  obtain ⟨m, rfl⟩ := h
  exact ⟨-m, by rw [Int.mul_neg]; omega⟩

open Classical in
noncomputable def unkl (l : Lit) : List Int := if h : ∃ e, l = kl e ∧ K7 1000000 e then h.choose else []
theorem K7.mono {d d' : Nat} {e : List Int} (h : K7 d e) (hd : d ≤ d') : K7 d' e := ⟨h.1, fun x hx => by have := h.2 x hx; omega⟩
theorem unkl_kl {e : List Int} {d : Nat} (h : K7 d e) (hd : d ≤ 1000000) : unkl (kl e) = e := by
  have hx : ∃ e', kl e = kl e' ∧ K7 1000000 e' := ⟨e, rfl, h.mono hd⟩
  unfold unkl
  rw [dif_pos hx]
  exact (kl_inj (h.mono hd) (Nat.le_refl _) hx.choose_spec.2 (Nat.le_refl _) hx.choose_spec.1).symm
/-- a map's datum adds up as a list does; its keys are from 0 to d -/
structure PolM (d : Nat) (D : DU) (P : Pl) : Prop where
  tidy : Tidy D
  keys : ∀ l, has D l = true → ∃ e, l = kl e ∧ K7 d e
  sum : ∀ g : List Int → Int, Cg (SmD D fun l => g (unkl l)) (Ev P g)
theorem PolM.empty (d : Nat) : PolM d (.map []) [] := ⟨tidy_empty, fun l h => by simp [has] at h, fun g => Cg.refl _⟩
theorem PolM.mono {d d' : Nat} {D : DU} {P : Pl} (h : PolM d D P) (hd : d ≤ d') : PolM d' D P :=
  ⟨h.tidy, fun l hl => by obtain ⟨e, h1, h2⟩ := h.keys l hl; exact ⟨e, h1, h2.mono hd⟩, h.sum⟩
theorem kl_lit (e : List Int) : WideAt.IsKeyLit (kl e) := trivial
/-- a number added at a key -/
def addD (D : DU) (k : Lit) (s : Int) : DU := if s = 0 then (D.put k (.lit (.int .i64 s))).del k else D.put k (.lit (.int .i64 s))
theorem PolM.add {d : Nat} {D : DU} {P : Pl} (h : PolM d D P) (hd : d ≤ 1000000) {e : List Int} (he : K7 d e) {c0 c s : Int}
    (hat : D.atKey (kl e) (.lit (.int .i64 0)) = .lit (.int .i64 c0)) (hs : Cg s (c0 + c)) : PolM d (addD D (kl e) s) (P ++ [(e, c)]) := by
  have ht := h.tidy.put (kl_lit e) (.lit (.int .i64 s))
  have hput : ∀ l, has (D.put (kl e) (.lit (.int .i64 s))) l = true → ∃ e', l = kl e' ∧ K7 d e' := fun l hl => by
    by_cases hk : l = kl e
    · exact ⟨e, hk, he⟩
    · rw [has_put_other hk] at hl
      exact h.keys l hl
  have hsum : ∀ g : List Int → Int, Cg (SmD (addD D (kl e) s) fun l => g (unkl l)) (Ev (P ++ [(e, c)]) g) := fun g => by
    have a := SmD_del h.tidy (kl_lit e) (fun l => g (unkl l))
    have b := SmD_put h.tidy (k := kl e) (fun l => g (unkl l)) (.lit (.int .i64 s))
    have b2 := del_put h.tidy (kl_lit e) (fun l => g (unkl l)) (.lit (.int .i64 s))
    have e1 : (SmD (addD D (kl e) s) fun l => g (unkl l)) = (SmD (D.del (kl e)) fun l => g (unkl l)) + s * g e := by
      unfold addD
      split
      · rename_i h0
        rw [b2, h0]; simp
      · rw [b]; simp only [coef, unkl_kl he hd]
    rw [e1, Ev_append]
    rw [hat] at a
    simp only [coef, unkl_kl he hd] at a
    have hsm := h.sum g
    rw [a] at hsm
    have h1 : Cg (s * g e) (c0 * g e + c * g e) := by rw [← Int.add_mul]; exact hs.mul (Cg.refl _)
    have h2 := (Cg.refl (SmD (D.del (kl e)) fun l => g (unkl l))).add h1
    have h3 := hsm.add (Cg.refl (c * g e))
    refine h2.trans ?_
    rw [← Int.add_assoc]
    simpa [Ev] using h3
  unfold addD at hsum ⊢
  split at hsum
  · rename_i h0
    rw [if_pos h0]
    refine ⟨ht.del _, fun l hl => ?_, hsum⟩
    by_cases hk : l = kl e
    · exact ⟨e, hk, he⟩
    · rw [has_del_other hk] at hl
      exact hput l hl
  · rename_i h0
    rw [if_neg h0]
    exact ⟨ht, hput, hsum⟩

end Go.Proofs.YtlbflckoodjokaaGreat

namespace Go.Proofs.YtlbflckoodjokaaGreat
set_option linter.all false
set_option maxRecDepth 100000
open Go.RowKit Go.Maps Go.WideMaps Go.WideElems Go.MapKept Go.ChangeMaps Go.ChangeShapes

section
variable {H : Type} {P : Program} {w : World} {t k e : TypeId} {R : Value → Option (DataW H × List MemPlace)} {b : Nat} {es : Array MapEntry} {clock : Nat}
theorem entry_es (K : KeyLaw P k) (ht : P.underlying t = some (.map k e)) {z : Value} (hz : ∀ u : World, (zeroValue e).run P u = .ok z u) (hb : w.heap[b]? = some (.map es clock)) (F : Fit P k R es clock)
    {key : Value} {kl : Lit} (hkey : keyOf P k key = some kl) {v0 : Value} {st : Nat} {es1 : Array MapEntry} {clock1 : Nat}
    (hrun : (Instr.mapEntry t (.map (some b)) key).run P w = .ok (.tuple #[v0, goInt st]) (setBlock w b (.map es1 clock1))) :
    (es1 = es ∧ ∃ e0 ∈ es.toList, e0.key = key ∧ v0 = e0.val) ∨ (es1 = es.push ⟨key, z, clock⟩ ∧ v0 = z ∧ ∀ x ∈ es.toList, x.key ≠ key) := by
  have hs : ∀ {es' : Array MapEntry} {c' : Nat}, setBlock w b (.map es1 clock1) = setBlock w b (.map es' c') → es1 = es' := fun h => by
    have h1 := heap_setBlock_same hb (.map es1 clock1)
    rw [h, heap_setBlock_same hb] at h1
    injection h1 with h1
    injection h1 with h1 _
    exact h1.symm
  rcases K.find w hkey es.toList F.keys with ⟨h1, h2⟩ | ⟨j, e0, h1, h2, h3⟩
  · have e1 : (Instr.mapEntry t (.map (some b)) key).run P w = .ok (.tuple #[z, goInt clock]) (setBlock w b (.map (es.push ⟨key, z, clock⟩) (clock + 1))) := by
      simp [Instr.mapEntry, run_underlying ht, MapKept.run_getObj_map hb, K.check w false hkey, h1, hz, MapKept.run_setObj_map _ hb, Result.andThen, setBlock]
    rw [e1] at hrun
    injection hrun with hv hw
    injection hv with hv
    have : z = v0 := by
      have := congrArg (fun a => a[0]?) hv
      simpa using this
    exact .inr ⟨hs hw.symm, this.symm, h2⟩
  · have hj : es[j]? = some e0 := by simpa using h2
    have e1 : (Instr.mapEntry t (.map (some b)) key).run P w = .ok (.tuple #[e0.val, goInt e0.born]) (setBlock w b (.map (es.modify j fun e => { e with key := key }) clock)) := by
      simp [Instr.mapEntry, run_underlying ht, MapKept.run_getObj_map hb, K.check w false hkey, h1, hj, h3, K.stays w hkey, MapKept.run_setObj_map _ hb, Result.andThen, setBlock]
    have hsame : es.modify j (fun e => { e with key := key }) = es := by
      apply Array.ext'
      rw [Array.toList_modify, modify_eq_set _ _ _ _ h2]
      have : ({ e0 with key := key } : MapEntry) = e0 := by rw [← h3]
      rw [this]
      exact set_self _ _ _ h2
    rw [e1, hsame] at hrun
    injection hrun with hv hw
    injection hv with hv
    have : e0.val = v0 := by
      have := congrArg (fun a => a[0]?) hv
      simpa using this
    exact .inl ⟨hs hw.symm, e0, List.mem_of_getElem? h2, h3, this.symm⟩
/-- a look-up finds what stands at the one entry of its key -/
theorem look_at (K : KeyLaw P k) (ht : P.underlying t = some (.map k e)) {u : World} (hb : u.heap[b]? = some (.map es clock)) (hks : ∀ x ∈ es.toList, ∃ l, keyOf P k x.key = some l)
    {key : Value} {kl : Lit} (hkey : keyOf P k key = some kl) {v0 : Value} (hv : ∀ x ∈ es.toList, x.key = key → x.val = v0) (hex : ∃ x ∈ es.toList, x.key = key) :
    (Instr.lookup t (.map (some b)) key false).run P u = .ok v0 u := by
  rcases K.find u hkey es.toList hks with ⟨h1, h2⟩ | ⟨j, e0, h1, h2, h3⟩
  · obtain ⟨x, hx, hxk⟩ := hex
    exact absurd hxk (h2 x hx)
  · have e1 := hv e0 (List.mem_of_getElem? h2) h3
    simp [Instr.lookup, run_underlying ht, MapKept.run_getObj_map hb, K.check u _ hkey, h1, e1, Result.andThen]
theorem entry_look (K : KeyLaw P k) (ht : P.underlying t = some (.map k e)) {z : Value} (hz : ∀ u : World, (zeroValue e).run P u = .ok z u) (hb : w.heap[b]? = some (.map es clock)) (F : Fit P k R es clock)
    {key : Value} {kl : Lit} (hkey : keyOf P k key = some kl) {v0 : Value} {st : Nat} {es1 : Array MapEntry} {clock1 : Nat}
    (hrun : (Instr.mapEntry t (.map (some b)) key).run P w = .ok (.tuple #[v0, goInt st]) (setBlock w b (.map es1 clock1))) :
    (Instr.lookup t (.map (some b)) key false).run P (setBlock w b (.map es1 clock1)) = .ok v0 (setBlock w b (.map es1 clock1)) ∧ (Instr.lookup t (.map (some b)) key false).run P w = .ok v0 w := by
  have hne : es.toList.Pairwise (fun x y => x.key ≠ y.key) := ((stamped_iff es clock).1 F.stamped).2.2
  rcases entry_es K ht hz hb F hkey hrun with ⟨rfl, e0, he, hk, rfl⟩ | ⟨rfl, rfl, h2⟩
  · have hall : ∀ x ∈ es1.toList, x.key = key → x.val = e0.val := fun x hx hxk => by rw [entry_eq_of_key hne hx he (hxk.trans hk.symm)]
    exact ⟨look_at K ht (heap_setBlock_same hb _) F.keys hkey hall ⟨e0, he, hk⟩, look_at K ht hb F.keys hkey hall ⟨e0, he, hk⟩⟩
  · refine ⟨look_at K ht (heap_setBlock_same hb _) (fun x hx => ?_) hkey (fun x hx hxk => ?_) ⟨⟨key, v0, clock⟩, by simp, rfl⟩, ?_⟩
    · simp only [Array.toList_push, List.mem_append, List.mem_singleton] at hx
      rcases hx with hx | rfl
      · exact F.keys x hx
      · exact ⟨kl, hkey⟩
    · simp only [Array.toList_push, List.mem_append, List.mem_singleton] at hx
      rcases hx with hx | rfl
      · exact absurd hxk (h2 x hx)
      · rfl
    · rcases K.find w hkey es.toList F.keys with ⟨h1, _⟩ | ⟨j, e0, _, h3, h4⟩
      · simp [Instr.lookup, run_underlying ht, MapKept.run_getObj_map hb, K.check w _ hkey, h1, hz, Result.andThen]
      · exact absurd h4 (h2 e0 (List.mem_of_getElem? h3))
end

end Go.Proofs.YtlbflckoodjokaaGreat

namespace Go.Proofs.YtlbflckoodjokaaGreat
set_option linter.all false
set_option maxRecDepth 100000
open Go.RowKit Go.Maps Go.WideMaps Go.WideElems Go.MapKept Go.ChangeMaps Go.ChangeShapes

abbrev OwnMp (w : World) (b n : Nat) (D : DU) : Prop := w.ownsMap Tryz.prog 72 (plainElem (H := Unit) Tryz.prog 3) b n D

theorem blk7 {w : World} {b : Nat} {x0 x1 x2 x3 x4 x5 x6 : Value} {T : TypeId} (h : w.heap[b]? = some (.cells #[x0, x1, x2, x3, x4, x5, x6] T (0, 0))) :
    w.cell? ⟨b, 0, none⟩ = some x0 ∧ w.cell? ⟨b, 1, none⟩ = some x1 ∧ w.cell? ⟨b, 2, none⟩ = some x2 ∧ w.cell? ⟨b, 3, none⟩ = some x3 ∧ w.cell? ⟨b, 4, none⟩ = some x4 ∧ w.cell? ⟨b, 5, none⟩ = some x5 ∧ w.cell? ⟨b, 6, none⟩ = some x6 ∧ (∀ j, w.frozen? ⟨b, j, none⟩ = false) ∧ b < w.heap.size :=
  ⟨cell_of_blk h rfl, cell_of_blk h rfl, cell_of_blk h rfl, cell_of_blk h rfl, cell_of_blk h rfl, cell_of_blk h rfl, cell_of_blk h rfl, free_of_blk h, (Array.getElem?_eq_some_iff.1 h).1⟩
/-- what the region of poly.add meets -/
theorem add_facts {u : World} {b n : Nat} {D : DU} {key : Value} {k0 : Lit} (hown : OwnMp u b n D) (hn : n < 1000000000000000) (hkey : keyOf Tryz.prog 72 key = some k0) :
    ∃ (c0 : Int) (st : Nat) (W1 : World), (Instr.lookup 62 (.map (some b)) key false).run Tryz.prog u = .ok (.int .i64 c0) u ∧
      D.atKey k0 (.lit (.int .i64 0)) = .lit (.int .i64 c0) ∧
      (Instr.mapEntry 62 (.map (some b)) key).run Tryz.prog u = .ok (.tuple #[.int .i64 c0, .int .i64 (st : Int)]) W1 ∧
      (Instr.lookup 62 (.map (some b)) key false).run Tryz.prog W1 = .ok (.int .i64 c0) W1 ∧
      u.grownBy W1 (some b) ∧ W1.heap.size = u.heap.size ∧
      ∀ s : Int, (Lit.int .i64 s).wf = true → ∃ W2, (Instr.entryStore 62 (.map (some b)) (.int .i64 (st : Int)) (.int .i64 s)).run Tryz.prog W1 = .ok () W2 ∧
        OwnMp W2 b (n + 1) (D.put k0 (.lit (.int .i64 s))) ∧ u.grownBy W2 (some b) ∧ W2.heap.size = u.heap.size := by
  have hown' := hown
  obtain ⟨c0, hl0, hat, hw0⟩ := hown.lookup_int klaw und41 undI (zeroI _) hkey
  obtain ⟨es, clock, hb, F, hs, hD⟩ := hown
  obtain ⟨v0, st, es1, clock1, h1, _, h3⟩ := entry_then_store arr7.law und41 zeroI hb F hkey
  have hlk := entry_look arr7.law und41 zeroI hb F hkey h1
  have hv : v0 = .int .i64 c0 := by
    have := hlk.2
    rw [hl0] at this
    injection this with this
    exact this.symm
  subst hv
  have hsz : ∀ o, (setBlock u b o).heap.size = u.heap.size := fun o => by simp [setBlock]
  have hgr : ∀ o, u.grownBy (setBlock u b o) (some b) := fun o => ⟨rfl, rfl, rfl, by rw [hsz]; exact Nat.le_refl _, fun i _ hi => heap_setBlock_other hb _ (fun e => hi (by rw [e]))⟩
  refine ⟨c0, st, _, hl0, hat, h1, hlk.1, hgr _, hsz _, fun s hs => ?_⟩
  obtain ⟨es', clock', hst, hup⟩ := h3 _ (.int .i64 s) (heap_setBlock_same hb _)
  obtain ⟨w', hrun, ho', hg'⟩ := hown'.update klaw und41 (by unfold maxLen; omega) hkey (plainElem_int undI hs)
  rw [hup] at hrun
  injection hrun with _ hrun
  have hh : setBlock (setBlock u b (.map es1 clock1)) b (.map es' clock') = setBlock u b (.map es' clock') := by
    simp [setBlock, Array.setIfInBounds_setIfInBounds]
  rw [hh] at hst
  exact ⟨_, hst, by rw [hrun]; exact ho', hgr _, hsz _⟩

theorem gb_undrew {u W : World} {r : Option Nat} (h : u.drew.grownBy W r) : u.grownBy W r := ⟨h.os, h.tape, h.output, h.size, h.block⟩
theorem cg_wrap (x : Int) : Cg (wrap64 x) x := ⟨-((x + 9223372036854775808) / 18446744073709551616), by unfold wrap64 M64; omega⟩
set_option maxRecDepth 100000 in
set_option maxHeartbeats 1000000 in
theorem add_any (b n d : Nat) (D : DU) (P : Pl) (e : List Int) (c : Int) (w : World) (hown : OwnMp w b n D) (hp : PolM d D P) (he : K7 d e) (hd : d ≤ 1000000) (hn : n < 1000000000000000) :
    Calls Tryz.prog 85 #[.map (some b), kv e, .int .i64 c] w fun e' w' => e' = .returned (.tuple #[]) ∧ ∃ D', OwnMp w' b (n + 1) D' ∧ PolM d D' (P ++ [(e, c)]) ∧ w.grownBy w' (some b) := by
  have hkey := keyOf_kv he hd
  obtain ⟨k0, hk0⟩ : ∃ k, k = kl e := ⟨_, rfl⟩
  have hadd := fun c0 s => PolM.add hp hd he (c0 := c0) (c := c) (s := s)
  rw [← hk0] at hkey hadd
  have Hadd := Lib.hid hadd
  clear hadd hk0
  obtain ⟨hl, hr⟩ := he
  match e, hl with
  | [a0, a1, a2, a3, a4, a5, a6], _ =>
  clear hr
  have hown1 : OwnMp (w.alloc (.cells #[.int .i64 a0, .int .i64 a1, .int .i64 a2, .int .i64 a3, .int .i64 a4, .int .i64 a5, .int .i64 a6] 72)).drew b n D := hown.alloc _
  have Hg0 := Lib.hid (World.grownBy_alloc w (.cells #[.int .i64 a0, .int .i64 a1, .int .i64 a2, .int .i64 a3, .int .i64 a4, .int .i64 a5, .int .i64 a6] 72) none)
  have hbw := hown.lt
  have hq := heap_alloc_top w (.cells #[.int .i64 a0, .int .i64 a1, .int .i64 a2, .int .i64 a3, .int .i64 a4, .int .i64 a5, .int .i64 a6] 72)
  obtain ⟨u, hu⟩ : ∃ u, u = w.alloc (.cells #[.int .i64 a0, .int .i64 a1, .int .i64 a2, .int .i64 a3, .int .i64 a4, .int .i64 a5, .int .i64 a6] 72) := ⟨_, rfl⟩
  obtain ⟨B, hB⟩ : ∃ B, B = w.heap.size := ⟨_, rfl⟩
  rw [← hu] at hown1 Hg0 hq
  have hkey' : keyOf Tryz.prog 72 (.agg #[.int .i64 a0, .int .i64 a1, .int .i64 a2, .int .i64 a3, .int .i64 a4, .int .i64 a5, .int .i64 a6]) = some k0 := hkey
  obtain ⟨c0, st, W1, hl0, hat, hent, hl1, hg1, hsz1, hst⟩ := add_facts hown1 hn hkey'
  obtain ⟨s, hs⟩ : ∃ s, s = wrap64 (c0 + c) := ⟨_, rfl⟩
  show Calls Tryz.prog 85 #[.map (some b), .agg #[.int .i64 a0, .int .i64 a1, .int .i64 a2, .int .i64 a3, .int .i64 a4, .int .i64 a5, .int .i64 a6], .int .i64 c] w _
  go_enter Tryz.func85, Tryz.ntmps85
  go_wp2_with fail
  rw [← hu, ← hB]
  rw [← hB] at hq hbw
  obtain ⟨f0, f1, f2, f3, f4, f5, f6, _, _⟩ := blk7 (w := u.drew) hq
  have hq1 : W1.heap[B]? = some (.cells #[.int .i64 a0, .int .i64 a1, .int .i64 a2, .int .i64 a3, .int .i64 a4, .int .i64 a5, .int .i64 a6] 72 (0, 0)) := (hg1.block B (Array.getElem?_eq_some_iff.1 hq).1 (by intro h; injection h with h; omega)).trans hq
  obtain ⟨g0, g1, g2, g3, g4, g5, g6, _, _⟩ := blk7 hq1
  obtain ⟨W2, hst2, ho2, hg2, hsz2⟩ := hst s (by rw [hs]; exact wrap64_wf _)
  have hq2 : W2.heap[B]? = some (.cells #[.int .i64 a0, .int .i64 a1, .int .i64 a2, .int .i64 a3, .int .i64 a4, .int .i64 a5, .int .i64 a6] 72 (0, 0)) := (hg2.block B (Array.getElem?_eq_some_iff.1 hq).1 (by intro h; injection h with h; omega)).trans hq
  obtain ⟨h0, h1, h2, h3, h4, h5, h6, _, _⟩ := blk7 hq2
  rw [hs] at hst2
  have Hown1 := Lib.hid hown1
  have Hst := Lib.hid hst
  have Hat := Lib.hid hat
  have Ho2 := Lib.hid ho2
  have Hg2 := Lib.hid hg2
  have Hs := Lib.hid hs
  have Hhu := Lib.hid hu
  have Hq2 := Lib.hid hq2
  have Htd := Lib.hid hp.tidy
  clear hown hown1 hst hat hg1 hu hq hq1 hq2 hg2 ho2 hs hp hbw hkey hB
  go_region
  have hown2 := Ho2.out
  obtain ⟨c1, hl2, hat2, _⟩ := hown2.lookup_int klaw und41 undI (zeroI _) hkey'
  have hc1 : c1 = s := by
    have hk : WideAt.IsKeyLit k0 := klaw.key hkey'
    rw [atKey_put_same Htd.out.isMap hk] at hat2
    injection hat2 with hat2
    injection hat2 with _ hat2
    exact hat2.symm
  subst hc1
  have hws : Cg c1 (c0 + c) := by rw [Hs.out]; exact cg_wrap _
  have hfin : ∀ (W : World), OwnMp W b (n + 1) (addD D k0 c1) → W2.grownBy W (some b) → ∃ D', OwnMp W b (n + 1) D' ∧ PolM d D' (P ++ [([a0, a1, a2, a3, a4, a5, a6], c)]) ∧ w.grownBy W (some b) := fun W h1 h2 =>
    ⟨_, h1, Hadd.out c0 c1 Hat.out hws, ((Hg0.out.but (some b)).trans (gb_undrew Hg2.out)).trans h2⟩
  have Hfin := Lib.hid hfin
  clear hfin hws hat2 hown2
  by_cases hz : c1 = 0
  · have hz' : (c1 == 0) = true := by simp [hz]
    have Hz := Lib.hid hz
    clear hz
    go_wp2_with (first | (at_delete; refine wpList_delete_own _ rfl _ _ 62 72 rfl 3 klaw und41 _ b (n + 1) _ rfl Ho2.out _ _ rfl hkey' ?_; intro w3 hown3 hturn3) | fail)
    go_end0
    exact ⟨rfl, Hfin.out _ (by unfold addD; rw [if_pos Hz.out]; exact hown3) hturn3.grown⟩
  · have hz' : (c1 == 0) = false := by simp [hz]
    go_wp2_with fail
    go_end0
    exact ⟨rfl, Hfin.out _ (by unfold addD; rw [if_neg hz]; exact Ho2.out) (World.grownBy.refl _ _)⟩

end Go.Proofs.YtlbflckoodjokaaGreat

namespace Go.Proofs.YtlbflckoodjokaaGreat
set_option linter.all false
set_option maxRecDepth 100000
open Go.RowKit Go.Maps Go.WideMaps Go.WideElems Go.MapKept Go.ChangeMaps Go.ChangeShapes

theorem PolM.alt {d : Nat} {D : DU} {P Q : Pl} (h : PolM d D P) (hq : ∀ g, Cg (Ev P g) (Ev Q g)) : PolM d D Q := ⟨h.tidy, h.keys, fun g => (h.sum g).trans (hq g)⟩
abbrev RanP (w : World) (b r n : Nat) (D : DU) (left : Lit → Bool) (cnt : Nat) : Prop := w.ranges Tryz.prog 72 (plainElem (H := Unit) Tryz.prog 3) b r n D left cnt

section
variable {P0 : Program} (w : World) {ops : Array Oper} {rest : List Oper} {o : Oper} {a : Act} {Q : Exit → Act → World → Prop}
theorem wpList_next_poly (hg : o.guard = none) (it : Operand) (hop : o.op = Op.next it false) (b r n d : Nat) (D : DU) (P : Pl) (left : Lit → Bool) (cnt : Nat)
    (hit : a.eval it = .pointer (some ⟨r, 0, none⟩)) (h : RanP w b r n D left cnt) (hp : PolM d D P) (hd : d ≤ 1000000) (hleft : ∀ l, left l = true → has D l = true)
    (hDone : cnt = 0 → (∀ kl, left kl = false) → wpList Tryz.prog ops Q rest (a.put o.dst (.tuple #[.bool false])) w)
    (hMore : ∀ (a0 a1 a2 a3 a4 a5 a6 c : Int) (w' : World) (cnt' : Nat), K7 d [a0, a1, a2, a3, a4, a5, a6] → left (kl [a0, a1, a2, a3, a4, a5, a6]) = true → (Lit.int .i64 c).wf = true →
      D.atKey (kl [a0, a1, a2, a3, a4, a5, a6]) (.lit (.int .i64 0)) = .lit (.int .i64 c) → RanP w' b r n D (fun z => left z && !z.sameKey (kl [a0, a1, a2, a3, a4, a5, a6])) cnt' → cnt' < cnt →
      w.grownBy w' (some r) → w'.heap.size = w.heap.size →
      (Instr.entry (.pointer (some ⟨r, 0, none⟩))).run Tryz.prog w' = .ok (.tuple #[.agg #[.int .i64 a0, .int .i64 a1, .int .i64 a2, .int .i64 a3, .int .i64 a4, .int .i64 a5, .int .i64 a6], .int .i64 c]) w' →
      wpList Tryz.prog ops Q rest (a.put o.dst (.tuple #[.bool true, .agg #[.int .i64 a0, .int .i64 a1, .int .i64 a2, .int .i64 a3, .int .i64 a4, .int .i64 a5, .int .i64 a6], .int .i64 c])) w') :
    wpList Tryz.prog ops Q (o :: rest) a w :=
  wpList_next_ranges w hg it hop 72 klaw (plainElem Tryz.prog 3) (fun x : Value => x) (Value.int .i64) (fun key _ _ => ⟨key, rfl⟩) (fun v y hv => by obtain ⟨c, rfl, _⟩ := plainElem_int_inv undI hv; exact ⟨c, rfl⟩)
    b r n D left cnt hit h hDone (fun x c l y w' cnt' hkey hlk hv hat hrg hlt hgr hsz hen => by
      obtain ⟨e, rfl, he⟩ := hp.keys l (hleft l hlk)
      obtain rfl := klaw.inj hkey (keyOf_kv he hd)
      obtain ⟨c', ec, rfl, hwc⟩ := plainElem_int_inv undI hv
      cases ec
      obtain ⟨hl, hr⟩ := he
      match e, hl with
      | [a0, a1, a2, a3, a4, a5, a6], hl => exact hMore a0 a1 a2 a3 a4 a5 a6 c w' cnt' ⟨hl, hr⟩ hlk hwc (hat _) hrg hlt hgr hsz hen)
end

/-- what is gathered and what is left add up -/
def Gath (D : DU) (P : Pl) (T : (List Int → Int) → List Int → Int) (left : Lit → Bool) (A : Pl) : Prop :=
  ∀ g : List Int → Int, Cg (Ev A g + SmK D left fun l => T g (unkl l)) (Ev P (T g))
theorem hm_of {w : World} {b n : Nat} {D : DU} (h : OwnMp w b n D) : ∀ es, D = .map es → ∀ p ∈ es, WideAt.IsKeyLit p.1 := fun es he p hp => by
  obtain ⟨es', h1, _, h3⟩ := h.entries klaw
  rw [he] at h1
  injection h1 with h1
  subst h1
  exact h3 p hp
theorem Gath.start {w : World} {b n d : Nat} {D : DU} {P : Pl} {T : (List Int → Int) → List Int → Int} (h : OwnMp w b n D) (hp : PolM d D P) : Gath D P T (has D) [] := fun g => by
  have e := SmK_all hp.tidy (fun l hl => by obtain ⟨e, rfl, _⟩ := hp.keys l hl; exact kl_lit e) (hm_of h) (fun l => T g (unkl l))
  rw [e]
  simpa [Ev] using hp.sum (T g)
theorem Gath.step {d : Nat} {D : DU} {P : Pl} {T : (List Int → Int) → List Int → Int} {left : Lit → Bool} {A : Pl} (h : Gath D P T left A) (ht : Tidy D) {e : List Int} (he : K7 d e) (hd : d ≤ 1000000) (hl : left (kl e) = true) {c : Int}
    (hat : D.atKey (kl e) (.lit (.int .i64 0)) = .lit (.int .i64 c)) {A' : Pl} (hA : ∀ g, Cg (Ev A' g) (Ev A g + c * T g e)) : Gath D P T (fun z => left z && !z.sameKey (kl e)) A' := fun g => by
  have h0 := h g
  rw [SmK_step ht (kl_lit e) hl, hat] at h0
  simp only [coef, unkl_kl he hd] at h0
  refine ((hA g).add (Cg.refl _)).trans ?_
  rw [Int.add_assoc]
  exact h0
theorem Gath.end {D : DU} {P : Pl} {T : (List Int → Int) → List Int → Int} {left : Lit → Bool} {A : Pl} (h : Gath D P T left A) (hl : ∀ l, left l = false) : ∀ g, Cg (Ev A g) (Ev P (T g)) := fun g => by
  have := h g
  rw [SmK_none hl] at this
  simpa using this

/-- a polynomial as a value -/
def PolV (w : World) (v : Value) (d n : Nat) (P : Pl) : Prop := ∃ b D, v = .map (some b) ∧ OwnMp w b n D ∧ PolM d D P
theorem PolV.below {w w' : World} {v : Value} {d n : Nat} {P : Pl} (h : PolV w v d n P) (hb : Below w.heap.size w w') : PolV w' v d n P := by
  obtain ⟨b, D, rfl, h1, h2⟩ := h
  have hlt := h1.lt
  obtain ⟨es, clock, hb', F, hs, hD⟩ := h1
  exact ⟨b, D, rfl, ⟨es, clock, (hb.block b hlt).trans hb', F, hs, hD⟩, h2⟩
theorem PolV.alt {w : World} {v : Value} {d n : Nat} {P Q : Pl} (h : PolV w v d n P) (hq : ∀ g, Cg (Ev P g) (Ev Q g)) : PolV w v d n Q := by
  obtain ⟨b, D, rfl, h1, h2⟩ := h
  exact ⟨b, D, rfl, h1, h2.alt hq⟩
theorem PolV.mono {w : World} {v : Value} {d n d' n' : Nat} {P : Pl} (h : PolV w v d n P) (hd : d ≤ d') (hn : n ≤ n') : PolV w v d' n' P := by
  obtain ⟨b, D, rfl, h1, h2⟩ := h
  exact ⟨b, D, rfl, h1.mono hn, h2.mono hd⟩

end Go.Proofs.YtlbflckoodjokaaGreat

namespace Go.Proofs.YtlbflckoodjokaaGreat
set_option linter.all false
set_option maxRecDepth 100000
open Go.RowKit Go.Maps Go.WideMaps Go.WideElems Go.MapKept Go.ChangeMaps Go.ChangeShapes

def sclP (k : Int) (P : Pl) : Pl := P.map fun p => (p.1, k * p.2)
theorem Ev_scl (k : Int) (P : Pl) (g : List Int → Int) : Ev (sclP k P) g = Ev P fun e => k * g e := by
  induction P with
  | nil => rfl
  | cons p l ih =>
    show k * p.2 * g p.1 + Ev (sclP k l) g = p.2 * (k * g p.1) + Ev l _
    rw [ih, Int.mul_comm k p.2, Int.mul_assoc]
theorem Ev_mul (k : Int) (P : Pl) (g : List Int → Int) : (Ev P fun e => k * g e) = k * Ev P g := by
  induction P with
  | nil => simp [Ev]
  | cons p l ih =>
    show p.2 * (k * g p.1) + Ev l _ = k * (p.2 * g p.1 + Ev l g)
    rw [ih, Int.mul_add, Int.mul_left_comm]
theorem has_sub {left : Lit → Bool} {D : DU} {k : Lit} (h : ∀ l, left l = true → has D l = true) : ∀ l, (left l && !l.sameKey k) = true → has D l = true := fun l hl => h l (by simp at hl; exact hl.1)

set_option maxRecDepth 100000 in
set_option maxHeartbeats 4000000 in
theorem plus_any (u v : Value) (k : Int) (d nf ng : Nat) (P Q : Pl) (w : World) (hf : PolV w u d nf P) (hg : PolV w v d ng Q) (hd : d ≤ 1000000) (hn : nf + ng < 1000000000000000) :
    Calls Tryz.prog 71 #[u, .int .i64 k, v] w fun e w' => ∃ u', e = .returned u' ∧ PolV w' u' d (nf + ng) (P ++ sclP k Q) ∧ Below w.heap.size w w' := by
  obtain ⟨bf, Df, rfl, hf1, hf2⟩ := hf
  obtain ⟨bg, Dg, rfl, hg1, hg2⟩ := hg
  have hmm := @run_makeMap Tryz.prog
  have hblf := hf1.lt
  have hblg := hg1.lt
  have hszf := hf1.size_le
  have hszg := hg1.size_le
  have e1 : (w.alloc (.map #[] 0)).heap.size = w.heap.size + 1 := by simp
  have HF2 := Lib.hid hf2
  have HG2 := Lib.hid hg2
  obtain ⟨B, hB⟩ : ∃ B, B = w.heap.size := ⟨_, rfl⟩
  have HB := Lib.hid hB
  have hG0 := Lib.hid (Gath.start (T := fun g => g) hf1 hf2)
  clear hf2 hg2
  go_enter Tryz.func71, Tryz.ntmps71
  go_wp2_with (first
    | (at_range; refine wpList_range_own _ rfl _ 62 rfl 72 3 klaw und41 _ bf nf _ rfl (hf1.alloc _) ?_; intro w0 hrg0 hg0 hs0)
    | fail)
  go_frame
  rw [e1] at hrg0 hs0 ⊢
  have hown0 : OwnMp w0 w.heap.size 0 (.map []) := (World.ownsMap_made _ _ _ _).kept hg0 (by simp)
  have hbel0 : Below w.heap.size w w0 := ((Below.refl _ _).alloc (Nat.le_refl _) _).grown hg0 (by simp) (fun j hj => by cases hj)
  rw [← hB] at hrg0 hs0 hown0 hbel0 hblf hblg ⊢
  have Hbel0 := Lib.hid hbel0
  clear hbel0 hg0 e1 hB
  go_loopg [8, 9] (Maps.size Df) (fun g s8 s9 wr => ∃ (left : Lit → Bool) (Dout : DU) (A : Pl), RanP wr bf (B + 1) nf Df left g ∧ g ≤ Maps.size Df ∧ (∀ l, left l = true → has Df l = true) ∧
      OwnMp wr B (Maps.size Df - g) Dout ∧ Hid (PolM d Dout A) ∧ Hid (Gath Df P (fun g => g) left A) ∧ Hid (Below B w wr))
  case atStart => exact ⟨_, .map [], [], hrg0, Nat.le_refl _, fun _ h => h, hown0.mono (Nat.zero_le _), Lib.hid (PolM.empty _), hG0, Hbel0⟩
  case round =>
    obtain ⟨left, Dout, A, hrg, hgs, hleft, hout, hpm, hga, hbel⟩ := hrel
    obtain ⟨wx, rfl⟩ : ∃ x : World, x = wr := ⟨_, rfl⟩
    have hpm0 := hpm.out
    go_wp2_with (first
      | (at_next; refine wpList_next_poly _ rfl _ rfl bf (B + 1) nf d Df P left gk rfl hrg HF2.out hd hleft ?_ ?_)
      | fail)
    · intro hc0 hl0
      have hend := (hga.out.end hl0)
      have Hpm := Lib.hid (hpm.out.alt (Q := P) hend)
      have hg1x : OwnMp wx bg ng Dg := by
        obtain ⟨es, clock, hb', F, hs, hD⟩ := hg1
        exact ⟨es, clock, (hbel.out.block bg hblg).trans hb', F, hs, hD⟩
      have hG1 := Lib.hid (Gath.start (T := fun g e => k * g e) hg1x HG2.out)
      have Hbel := Lib.hid hbel.out
      have hout1 : OwnMp wx B nf Dout := hout.mono (by omega)
      have hBx := hout.lt
      clear hrg hleft hout hpm hga hbel hend hG0 hgs hc0 hl0 hf1 hg1 hszf hrg0 hown0 hs0
      go_wp2_with (first
        | (at_range; refine wpList_range_own _ rfl _ 62 rfl 72 3 klaw und41 _ bg ng _ rfl hg1x ?_; intro w0' hrg0 hg0 hs0)
        | fail)
      go_frame
      obtain ⟨r, hr⟩ : ∃ r, r = wx.heap.size := ⟨_, rfl⟩
      have hown0 := hout1.kept hg0 (by simp)
      have Hbel0 := Lib.hid (Hbel.out.grown hg0 (by omega) (fun j hj => by cases hj))
      rw [← hr] at hrg0 hs0 hBx ⊢
      clear hg0 hr hout1 hg1x Hbel
      go_loopg [10, 11] (Maps.size Dg) (fun g s10 s11 wr => ∃ (left : Lit → Bool) (Dout : DU) (A : Pl), RanP wr bg r ng Dg left g ∧ g ≤ Maps.size Dg ∧ (∀ l, left l = true → has Dg l = true) ∧
          OwnMp wr B (nf + (Maps.size Dg - g)) Dout ∧ Hid (PolM d Dout (P ++ A)) ∧ Hid (Gath Dg Q (fun g e => k * g e) left A) ∧ Hid (Below B w wr))
      case atStart => exact ⟨_, _, [], hrg0, Nat.le_refl _, fun _ h => h, hown0.mono (by omega), by rw [List.append_nil]; exact Hpm, hG1, Hbel0⟩
      case round =>
        obtain ⟨left, Dout, A, hrg, hgs, hleft, hout, hpm, hga, hbel⟩ := hrel
        obtain ⟨wy, rfl⟩ : ∃ x : World, x = wr := ⟨_, rfl⟩
        go_wp2_with (first
          | (at_next; refine wpList_next_poly _ rfl _ rfl bg r ng d Dg Q left gk rfl hrg HG2.out hd hleft ?_ ?_)
          | fail)
        · intro hc0 hl0
          have hend := (hga.out.end hl0)
          go_wp2_with fail
          go_ret
          refine ⟨_, rfl, ⟨B, Dout, rfl, hout.mono (by omega), hpm.out.alt fun g => ?_⟩, HB.out ▸ hbel.out⟩
          rw [Ev_append, Ev_append, Ev_scl]
          exact (Cg.refl _).add (hend g)
        · intro a0 a1 a2 a3 a4 a5 a6 c w1 cnt1 hK hlx hwf hat hrg1 hlt hgr1 hs1 hen
          have Hat := Lib.hid hat
          have Hgr1 := Lib.hid hgr1
          have hout1 := hout.kept hgr1 (by intro h; injection h with h; omega)
          have hBy := hout.lt
          clear hat hgr1
          go_wp2_with fail
          refine (add_any B (nf + (Maps.size Dg - gk)) d Dout (P ++ A) [a0, a1, a2, a3, a4, a5, a6] (wrap64 (k * c)) _ (hout1.alloc _) hpm.out hK hd (by omega)).mono ?_
          rintro e w2 ⟨rfl, D2, ho2, hp2, hg2⟩
          have hrg2 := (hrg1.alloc _).kept hg2 (by intro h; injection h with h; omega) (by intro h; injection h with h; omega)
          have Hp2 := Lib.hid hp2
          have Hb2 := Lib.hid (((hbel.out.grown Hgr1.out (by omega) (fun j hj => by cases hj; omega)).alloc (by omega) _).grown hg2 (by simp; omega) (fun j hj => by cases hj; omega))
          clear hp2 hg2
          go_wp2_with fail
          go_roundg cnt1
          case measure => exact hlt
          case rel =>
            refine ⟨_, D2, A ++ [([a0, a1, a2, a3, a4, a5, a6], wrap64 (k * c))], hrg2, by omega, has_sub hleft, ho2.mono (by omega), by rw [← List.append_assoc]; exact Hp2, Lib.hid (hga.out.step HG2.out.tidy hK hd hlx Hat.out fun g => ?_), Hb2⟩
            rw [Ev_append]
            refine (Cg.refl _).add ?_
            simp only [Ev, Int.add_zero]
            rw [Int.mul_left_comm, ← Int.mul_assoc]
            exact (cg_wrap _).mul (Cg.refl _)
    · intro a0 a1 a2 a3 a4 a5 a6 c w1 cnt1 hK hlx hwf hat hrg1 hlt hgr1 hs1 hen
      have Hat := Lib.hid hat
      have Hgr1 := Lib.hid hgr1
      have hout1 := hout.kept hgr1 (by intro h; injection h with h; omega)
      have hBx := hout.lt
      clear hat hgr1 hpm0
      go_wp2_with fail
      refine (add_any B (Maps.size Df - gk) d Dout A [a0, a1, a2, a3, a4, a5, a6] c _ (hout1.alloc _) hpm.out hK hd (by omega)).mono ?_
      rintro e w2 ⟨rfl, D2, ho2, hp2, hg2⟩
      have hrg2 := (hrg1.alloc _).kept hg2 (by intro h; injection h with h; omega) (by intro h; injection h with h; omega)
      have Hp2 := Lib.hid hp2
      have Hb2 := Lib.hid (((hbel.out.grown Hgr1.out (by omega) (fun j hj => by cases hj; omega)).alloc (by omega) _).grown hg2 (by simp; omega) (fun j hj => by cases hj; omega))
      clear hp2 hg2
      go_wp2_with fail
      go_roundg cnt1
      case measure => exact hlt
      case rel =>
        refine ⟨_, D2, A ++ [([a0, a1, a2, a3, a4, a5, a6], c)], hrg2, by omega, has_sub hleft, ho2.mono (by omega), Hp2, Lib.hid (hga.out.step HF2.out.tidy hK hd hlx Hat.out fun g => ?_), Hb2⟩
        rw [Ev_append]
        exact (Cg.refl _).add (Cg.of _ _ (by simp [Ev]))

end Go.Proofs.YtlbflckoodjokaaGreat
