/-
  Divided differences along any way. Plain.
  l3Up: the places at which a permutation grows.
  l3Double: the reference's double Schubert polynomial.
  ClassesOk, on both sides.
  PolyOk on the reference's side: what it tells where it says yes.
-/
import Derived.Test.YtllmhicmikpfeaaJ12
import Derived.Test.YtllmhicmikpfeaaJ5
import Derived.Test.YtllmhicmikpfeaaJ4
import Derived.Test.YtllmhicmikpfeaaJ2
import Derived.Test.YtllmhicmikpfeaaJ6
namespace Go.Proofs.Ytllmhicmikpfeaa
set_option linter.all false
set_option maxRecDepth 100000
open Go.RowKit

/-! ### values -/
/-- the value of a permutation's polynomial -/
def EV (T : Pl) (v x : List Int) : Int := Ev (lowP 10 v T) (mono x)
def Dst (n : Nat) (x : List Int) : Prop := x.length = 7 ∧ ∀ i j, i < j → j < n → x.getD i 0 ≠ x.getD j 0
theorem sw_getD {x : List Int} {k t : Nat} (hk : k + 1 < x.length) : (sw k x).getD t 0 = if t = k + 1 then x.getD k 0 else if t = k then x.getD (k + 1) 0 else x.getD t 0 := swapL_getD (by omega) hk
theorem sw_at {x : List Int} {k : Nat} (hk : k + 1 < x.length) : (sw k x).getD k 0 = x.getD (k + 1) 0 := by rw [sw_getD hk, if_neg (by omega), if_pos rfl]
theorem sw_at1 {x : List Int} {k : Nat} (hk : k + 1 < x.length) : (sw k x).getD (k + 1) 0 = x.getD k 0 := by rw [sw_getD hk, if_pos rfl]
theorem sw_off {x : List Int} {k t : Nat} (hk : k + 1 < x.length) (h1 : t ≠ k) (h2 : t ≠ k + 1) : (sw k x).getD t 0 = x.getD t 0 := by rw [sw_getD hk, if_neg h2, if_neg h1]
theorem sw_sw {x : List Int} {k : Nat} (hk : k + 1 < x.length) : sw k (sw k x) = x := by
  refine getD_eq_list (by rw [sw_length, sw_length]) fun t _ => ?_
  rw [sw_getD (by rw [sw_length]; exact hk), sw_at hk, sw_at1 hk, sw_getD hk]
  by_cases h1 : t = k + 1
  · rw [if_pos h1, h1]
  · rw [if_neg h1, if_neg h1]
    by_cases h2 : t = k
    · rw [if_pos h2, h2]
    · rw [if_neg h2, if_neg h2]
theorem sw_far {x : List Int} {j k : Nat} (hk : k + 1 < x.length) (hjk : j + 2 ≤ k) : sw k (sw j x) = sw j (sw k x) := by
  have lj : j + 1 < x.length := by omega
  have lk : k + 1 < (sw j x).length := by rw [sw_length]; exact hk
  have lj2 : j + 1 < (sw k x).length := by rw [sw_length]; exact lj
  refine getD_eq_list (by simp only [sw_length]) fun t _ => ?_
  rw [sw_getD lk, sw_getD lj2, sw_getD lj, sw_getD lj, sw_getD (t := t) lj, sw_getD (t := j) hk, sw_getD (t := j + 1) hk, sw_getD (t := t) hk]
  repeat' split
  all_goals (first | rfl | omega)
theorem sw_near {x : List Int} {j : Nat} (hk : j + 2 < x.length) : sw j (sw (j + 1) (sw j x)) = sw (j + 1) (sw j (sw (j + 1) x)) := by
  have l0 : j + 1 < x.length := by omega
  have l1 : j + 1 + 1 < x.length := by omega
  have a1 : j + 1 + 1 < (sw j x).length := by rw [sw_length]; exact l1
  have b1 : j + 1 < (sw (j + 1) x).length := by rw [sw_length]; exact l0
  have a2 : j + 1 < (sw (j + 1) (sw j x)).length := by rw [sw_length, sw_length]; exact l0
  have b2 : j + 1 + 1 < (sw j (sw (j + 1) x)).length := by rw [sw_length, sw_length]; exact l1
  refine getD_eq_list (by simp only [sw_length]) fun t _ => ?_
  by_cases h0 : t = j
  · rw [h0, sw_at a2, sw_at a1, sw_off l0 (by omega) (by omega), sw_off b2 (by omega) (by omega), sw_at b1, sw_at l1]
  · by_cases h1 : t = j + 1
    · rw [h1, sw_at1 a2, sw_off a1 (by omega) (by omega), sw_at l0, sw_at b2, sw_off b1 (by omega) (by omega), sw_at1 l1]
    · by_cases h2 : t = j + 1 + 1
      · rw [h2, sw_off a2 (by omega) (by omega), sw_at1 a1, sw_at1 l0, sw_at1 b2, sw_at1 b1, sw_off l1 (by omega) (by omega)]
      · rw [sw_off a2 h0 h1, sw_off a1 h1 h2, sw_off l0 h0 h1, sw_off b2 h1 h2, sw_off b1 h0 h1, sw_off l1 h1 h2]
theorem Dst.sw {n : Nat} {x : List Int} (h : Dst n x) (hn : n ≤ 7) {k : Nat} (hk : k + 1 < n) : Dst n (sw k x) := by
  refine ⟨by rw [sw_length]; exact h.1, fun i j hij hj => ?_⟩
  have hl := h.1
  rw [sw_getD (by omega), sw_getD (by omega)]
  repeat' split
  all_goals first | (exact h.2 _ _ (by omega) (by omega)) | (exact fun e => h.2 _ _ (show _ < _ from by omega) (by omega) e.symm) | omega

theorem low_step {T : Pl} {n : Nat} {v : List Int} (h : P5 n v) {k : Nat} (hf : fasc v = some k) : lowP 10 v T = dvP k (lowP 10 (sw k v) T) := by
  have h0 := h.low
  rw [lowOk, hf] at h0
  rw [lowP, hf]
  dsimp only at h0 ⊢
  rw [← low_more 9 10 _ h0 (by omega)]
  rfl
theorem EV_first {T : Pl} (hT : Pos7 T) {n : Nat} {v : List Int} (h : P5 n v) {k : Nat} (hf : fasc v = some k) {x : List Int} (hx : x.length = 7) :
    (x.getD k 0 - x.getD (k + 1) 0) * EV T v x = EV T (sw k v) x - EV T (sw k v) (sw k x) := by
  unfold EV
  rw [low_step h hf]
  have hk := fasc_lt hf
  have hl := h.len
  have h5 := h.le
  exact dv_val (by omega) hx (hT.low 10 _ (by rw [sw_length]; omega))
/-- divided differences along any way, at different numbers -/
def WayAt (T : Pl) (n : Nat) (v : List Int) (k : Nat) (x : List Int) : Prop := (x.getD k 0 - x.getD (k + 1) 0) * EV T v x = EV T (sw k v) x - EV T (sw k v) (sw k x)
theorem WayAt.sym {T : Pl} {n : Nat} {v : List Int} {k : Nat} {x : List Int} (hk : k + 1 < x.length) (h : WayAt T n v k x) (h' : WayAt T n v k (sw k x)) : EV T v (sw k x) = EV T v x := by
  unfold WayAt at h h'
  rw [sw_sw hk, sw_at hk, sw_at1 hk] at h'
  by_cases e : x.getD k 0 = x.getD (k + 1) 0
  · have : sw k x = x := by
      refine getD_eq_list (sw_length _ _) fun t _ => ?_
      rw [sw_getD hk]
      split
      · rename_i h; rw [h, e]
      · split
        · rename_i h; rw [h, e]
        · rfl
    rw [this]
  · have : (x.getD k 0 - x.getD (k + 1) 0) * (EV T v x - EV T v (sw k x)) = 0 := by
      have t : ∀ a b p q : Int, (a - b) * (p - q) = (a - b) * p + (b - a) * q := fun a b p q => by grind
      rw [t, h, h']; omega
    have := cancel (by omega) this
    omega
theorem way_dst {T : Pl} (hT : Pos7 T) {n : Nat} : ∀ (m : Nat) (v : List Int), P5 n v → upN v = m → ∀ k, k + 1 < n → ascB k v = true → ∀ x, Dst n x → WayAt T n v k x := by
  intro m
  induction m using Nat.strongRecOn with
  | _ m ih =>
    intro v hv hm k hk ha x hx
    have h5 := hv.le
    have hxl := hx.1
    obtain ⟨j, hj⟩ : ∃ j, fasc v = some j := by
      cases hf : fasc v with
      | some j => exact ⟨j, rfl⟩
      | none =>
        exfalso
        have hl := hv.len
        unfold fasc at hf
        rw [List.find?_eq_none] at hf
        have := hf k (List.mem_range.2 (by omega))
        exact this ha
    have hjl := fasc_lt hj
    have hl := hv.len
    have hjn : j + 1 < n := by omega
    have haj : ascB j v = true := by unfold ascB; exact decide_eq_true hjl.2.1
    have hjk : j ≤ k := Nat.not_lt.1 fun hlt => hjl.2.2 k hlt (of_decide_eq_true ha)
    have sub : ∀ u, P5 n u → upN u < upN v → ∀ i, i + 1 < n → ascB i u = true → ∀ x, Dst n x → WayAt T n u i x := fun u hu hlt i hi hai x hx => ih (upN u) (by omega) u hu rfl i hi hai x hx
    have first : ∀ x : List Int, x.length = 7 → WayAt T n v j x := fun x hx => EV_first hT hv hj hx
    have uj := (hv.asc hjn haj).1
    have uk := (hv.asc hk ha).1
    rcases Nat.lt_or_eq_of_le hjk with hlt | rfl
    · rcases Nat.lt_or_eq_of_le (Nat.succ_le_of_lt hlt) with h2 | h2
      · -- far letters
        obtain ⟨f1, f2, f3⟩ := hv.far hk (by omega) haj ha
        have a1 := first x hx.1
        have b1 := sub _ (hv.sw hjn) (by omega) k hk f1 x hx
        have b2 := sub _ (hv.sw hjn) (by omega) k hk f1 _ (hx.sw (by omega) hjn)
        have c1 := sub _ (hv.sw hk) (by omega) j hjn f2 x hx
        have c2 := sub _ (hv.sw hk) (by omega) j hjn f2 _ (hx.sw (by omega) hk)
        unfold WayAt at a1 b1 b2 c1 c2 ⊢
        have q1 : (Go.Proofs.Ytllmhicmikpfeaa.sw j x).getD k 0 = x.getD k 0 := sw_off (by omega) (by omega) (by omega)
        have q2 : (Go.Proofs.Ytllmhicmikpfeaa.sw j x).getD (k + 1) 0 = x.getD (k + 1) 0 := sw_off (by omega) (by omega) (by omega)
        have q3 : (Go.Proofs.Ytllmhicmikpfeaa.sw k x).getD j 0 = x.getD j 0 := sw_off (by omega) (by omega) (by omega)
        have q4 : (Go.Proofs.Ytllmhicmikpfeaa.sw k x).getD (j + 1) 0 = x.getD (j + 1) 0 := sw_off (by omega) (by omega) (by omega)
        rw [q1, q2, f3, sw_far (x := x) (j := j) (k := k) (by omega) (by omega)] at b2
        rw [q3, q4] at c2
        rw [f3] at b1
        have hne := hx.2 j (j + 1) (by omega) hjn
        have key : (x.getD j 0 - x.getD (j + 1) 0) * ((x.getD k 0 - x.getD (k + 1) 0) * EV T v x - (EV T (Go.Proofs.Ytllmhicmikpfeaa.sw k v) x - EV T (Go.Proofs.Ytllmhicmikpfeaa.sw k v) (Go.Proofs.Ytllmhicmikpfeaa.sw k x))) = 0 := by
          have t : ∀ A B p q r : Int, A * (B * p - (q - r)) = B * (A * p) - (A * q - A * r) := fun A B p q r => by grind
          rw [t, a1, c1, c2]
          have t2 : ∀ B p q : Int, B * (p - q) = B * p - B * q := fun B p q => by grind
          rw [t2, b1, b2]
          omega
        have := cancel (by omega) key
        omega
      · -- neighbours
        obtain rfl : k = j + 1 := by omega
        obtain ⟨f1, f2, f3, f4, f5⟩ := hv.near (by omega) haj ha
        have vj := hv.sw hjn
        have vk := hv.sw hk
        have vjk := vj.sw hk
        have vkj := vk.sw hjn
        have u1 := (vj.asc hk f1).1
        have u2 := (vk.asc hjn f3).1
        have D0 := hx
        have D1 := hx.sw (by omega) hjn
        have D2 := hx.sw (by omega) hk
        have D12 := D1.sw (by omega) hk
        have D21 := D2.sw (by omega) hjn
        have l0 : j + 2 < x.length := by omega
        have lj : j + 1 < x.length := by omega
        have h1 := sub _ vjk (by omega) j hjn f2 x D0
        have h1s := sub _ vjk (by omega) j hjn f2 _ D1
        have h2 := sub _ vjk (by omega) j hjn f2 _ D2
        have h3 := sub _ vjk (by omega) j hjn f2 _ D12
        have h4 := sub _ vj (by omega) (j + 1) hk f1 x D0
        have h5' := sub _ vj (by omega) (j + 1) hk f1 _ D1
        have h6 := first x hx.1
        have g1 := sub _ vkj (by omega) (j + 1) hk f4 x D0
        have g1s := sub _ vkj (by omega) (j + 1) hk f4 _ D2
        have g2 := sub _ vkj (by omega) (j + 1) hk f4 _ D1
        have g3 := sub _ vkj (by omega) (j + 1) hk f4 _ D21
        have g4 := sub _ vk (by omega) j hjn f3 x D0
        have g5 := sub _ vk (by omega) j hjn f3 _ D2
        have s1 := h1.sym lj h1s
        have s2 := g1.sym l0 g1s
        unfold WayAt at h1 h2 h3 h4 h5' h6 g1 g2 g3 g4 g5 ⊢
        have n12 := hx.2 j (j + 1) (by omega) (by omega)
        have n13 := hx.2 j (j + 2) (by omega) (by omega)
        have n23 := hx.2 (j + 1) (j + 2) (by omega) (by omega)
        have p1a : (Go.Proofs.Ytllmhicmikpfeaa.sw j x).getD j 0 = x.getD (j + 1) 0 := sw_at lj
        have p1b : (Go.Proofs.Ytllmhicmikpfeaa.sw j x).getD (j + 1) 0 = x.getD j 0 := sw_at1 lj
        have p1c : (Go.Proofs.Ytllmhicmikpfeaa.sw j x).getD (j + 1 + 1) 0 = x.getD (j + 2) 0 := sw_off lj (by omega) (by omega)
        have p2a : (Go.Proofs.Ytllmhicmikpfeaa.sw (j + 1) x).getD j 0 = x.getD j 0 := sw_off l0 (by omega) (by omega)
        have p2b : (Go.Proofs.Ytllmhicmikpfeaa.sw (j + 1) x).getD (j + 1) 0 = x.getD (j + 2) 0 := sw_at l0
        have p2c : (Go.Proofs.Ytllmhicmikpfeaa.sw (j + 1) x).getD (j + 1 + 1) 0 = x.getD (j + 1) 0 := sw_at1 l0
        have p12a : (Go.Proofs.Ytllmhicmikpfeaa.sw (j + 1) (Go.Proofs.Ytllmhicmikpfeaa.sw j x)).getD j 0 = x.getD (j + 1) 0 := by rw [sw_off (by rw [sw_length]; omega) (by omega) (by omega), p1a]
        have p12b : (Go.Proofs.Ytllmhicmikpfeaa.sw (j + 1) (Go.Proofs.Ytllmhicmikpfeaa.sw j x)).getD (j + 1) 0 = x.getD (j + 2) 0 := by rw [sw_at (by rw [sw_length]; omega), p1c]
        have p21b : (Go.Proofs.Ytllmhicmikpfeaa.sw j (Go.Proofs.Ytllmhicmikpfeaa.sw (j + 1) x)).getD (j + 1) 0 = x.getD j 0 := by rw [sw_at1 (by rw [sw_length]; omega), p2a]
        have p21c : (Go.Proofs.Ytllmhicmikpfeaa.sw j (Go.Proofs.Ytllmhicmikpfeaa.sw (j + 1) x)).getD (j + 1 + 1) 0 = x.getD (j + 1) 0 := by rw [sw_off (by rw [sw_length]; omega) (by omega) (by omega), p2c]
        rw [p2a, p2b] at h2
        rw [p12a, p12b] at h3
        rw [p1b, p1c] at h5' g2
        rw [p2a, p2b] at g5
        rw [p21b, p21c] at g3
        rw [s1] at h5'
        rw [s2] at g5
        rw [← f5] at g1 g2 g3
        rw [sw_near l0] at h3
        show (x.getD (j + 1) 0 - x.getD (j + 2) 0) * _ = _
        exact braid _ _ _ _ _ _ _ _ _ _ _ _ _ _ _ _ _ 0 _ _ _ (by omega) (by omega) (by omega) h1 h2 h3 h4 h5' h6 g1 g2 g3 g4 g5
    · exact first x hx.1

end Go.Proofs.Ytllmhicmikpfeaa

namespace Go.Proofs.Ytllmhicmikpfeaa
set_option linter.all false
set_option maxRecDepth 100000
open Go.RowKit

def upI (ks : List Nat) : List Int := ks.map fun (k : Nat) => (k : Int)
theorem fasc_at {xs : List Int} {m : Nat} (hm : m + 1 < xs.length) (h : xs.getD m 0 < xs.getD (m + 1) 0) (h0 : ∀ j, j < m → ¬ xs.getD j 0 < xs.getD (j + 1) 0) : fasc xs = some m := fasc_some (by omega) h h0

set_option maxHeartbeats 8000000 in
theorem l3Up_any (n : Nat) (v : Value) (xs : List Int) (w : World) (h : Ints w v xs) (hp : P5 n xs) (h1 : 1 ≤ n) :
    Calls Try.prog 69 #[v] w fun e w' => ∃ u, e = .returned u ∧ OwnI 3 w' w.heap.size w'.heap.size u (upI (upL 10 xs)) ∧ Below w.heap.size w w' := by
  have H := Lib.hid h
  have hlo := hp.low
  have h5 := hp.le
  have hxl := hp.len
  have Hlo := Lib.hid hlo
  have Hxl := Lib.hid hxl
  obtain ⟨p, cap, rfl, _, _⟩ := h
  rw [hxl] at H ⊢
  clear hp hlo hxl
  go_enter Try.func69, Try.ntmps69
  go_wp2_with fail
  have e1 : (w.alloc (.cells #[] 3)).heap.size = w.heap.size + 1 := size_alloc _ _
  refine (l1Ints_any _ xs _ (H.out.below (below_alloc w _)) (by rw [Hxl.out]; omega)).mono ?_
  rintro e w1 ⟨u1, rfl, ho1, hb1⟩
  rw [e1] at ho1
  have Ho1 := Lib.hid ho1
  have Hb1 := Lib.hid (show Below w.heap.size w w1 from (below_alloc w _).trans (hb1.mono (by rw [e1]; omega)))
  have hs1 : w.heap.size + 1 ≤ w1.heap.size := by rw [← e1]; exact hb1.size
  have Ho0 := Lib.hid (((OwnF.ints (xs := []) (OwnF.made0 w 3 (iv []))).below hb1).mono (Nat.le_refl _) hs1)
  obtain ⟨p1, k1, rfl, hk1, hk11⟩ := ho1.shape
  have Hn1 := Lib.hid (show ∀ b, (Value.slice p1 xs.length k1).ownBlock = some b → w.heap.size < b from fun b hb => by have := (Own.block Ho1.out hb).1; omega)
  rw [Hxl.out] at hk1 Ho1 Hn1 ⊢
  clear ho1 hb1 e1
  go_wp2_with fail
  go_loopg [3, 4, 5] (10 * (n + 1) + n) (fun g s3 s4 s5 wr => ∃ (f m : Nat) (cur : List Int) (outs : List Nat) (p4 : Option Addr) (k4 : Nat), g = f * (n + 1) + (n - m) ∧ m ≤ n ∧ s5 = .int .i64 (m : Int) ∧ s4 = .slice p4 n k4 ∧ Hid (upL 10 xs = outs ++ upL f cur) ∧ Hid (lowOk f cur = true) ∧ Hid (cur.length = n) ∧ Hid (∀ j, j < m → j + 1 < n → ¬ cur.getD j 0 < cur.getD (j + 1) 0) ∧
      Hid (OwnI 3 wr w.heap.size wr.heap.size s3 (upI outs)) ∧ Hid (OwnI 3 wr w.heap.size wr.heap.size (.slice p4 n k4) cur) ∧ Hid (∀ b, s3.ownBlock = some b → ∀ c, (Value.slice p4 n k4).ownBlock = some c → b ≠ c) ∧ Hid (Below w.heap.size w wr))
  case atStart => exact ⟨10, 0, xs, [], p1, k1, rfl, Nat.zero_le _, rfl, rfl, rfl, Hlo.out, Hxl.out, fun j hj => absurd hj (Nat.not_lt_zero _), Ho0.out, Ho1.out.mono (by omega) (Nat.le_refl _), fun b hb c hc e => by
    have := Hn1.out c hc
    simp [Value.ownBlock] at hb
    omega, Hb1.out⟩
  case round =>
    obtain ⟨f, m, cur, outs, p4, k4, rfl, hm, rfl, rfl, hup, hok, hcl, hno, ho3, ho4, hne, hb⟩ := hrel
    obtain ⟨wo, rfl⟩ : ∃ x : World, x = wr := ⟨_, rfl⟩
    have hsz := hb.out.size
    by_cases hlt : m + 1 < n
    · have hmi : (m : Int) + 1 < (n : Int) := by omega
      have hmi2 : (m : Int) < (n : Int) := by omega
      have hm0 : (0 : Int) ≤ (m : Int) := by omega
      have hm1 : (0 : Int) ≤ (m : Int) + 1 := by omega
      have hm2 : ((m : Int) + 1).toNat = m + 1 := by omega
      have hc := ho4.out.ints
      obtain ⟨p4', k4', e4, _, hcc⟩ := hc
      rw [hcl.out] at e4 hcc
      injection e4 with e41 e42 e43
      subst e41
      obtain ⟨b4, o4, rfl, hcc2⟩ := hcc (by omega)
      have c1 := hcc2 m (by omega)
      have c2 := hcc2 (m + 1) (by omega)
      unfold iv at c1 c2
      obtain ⟨X, hX⟩ : ∃ x, x = cur.getD m 0 := ⟨_, rfl⟩
      obtain ⟨Y, hY⟩ : ∃ x, x = cur.getD (m + 1) 0 := ⟨_, rfl⟩
      rw [← hX] at c1
      rw [← hY] at c2
      have HX := Lib.hid hX
      have HY := Lib.hid hY
      clear hcc hcc2 e42 e43 hX hY
      by_cases hxy : X < Y
      · have hf := fasc_at (by rw [hcl.out]; exact hlt) (show cur.getD m 0 < cur.getD (m + 1) 0 by rw [← HX.out, ← HY.out]; exact hxy) (fun j hj => hno.out j hj (by omega))
        have hfx : ∃ f', f = f' + 1 ∧ lowOk f' (swapL cur m (m + 1)) = true ∧ upL f cur = m :: upL f' (swapL cur m (m + 1)) := by
          have h2 := hok.out
          cases f with
          | zero => unfold lowOk at h2; rw [hf] at h2; cases h2
          | succ f' => exact ⟨f', rfl, by unfold lowOk at h2; rw [hf] at h2; exact h2, by rw [upL, hf]⟩
        obtain ⟨f', hff, hok', hupf⟩ := hfx
        have hup' := hup.out
        rw [hupf] at hup'
        have Hup := Lib.hid (show upL 10 xs = (outs ++ [m]) ++ upL f' (swapL cur m (m + 1)) by rw [List.append_assoc]; exact hup')
        have Hok := Lib.hid hok'
        have Hff := Lib.hid hff
        have hS := l1Swap_any (.slice (some ⟨b4, o4, none⟩) n k4) cur m (m + 1)
        have HS := Lib.hid (fun W (hW : Ints W (.slice (some ⟨b4, o4, none⟩) n k4) cur) => hS W hW (by rw [hcl.out]; omega) (by rw [hcl.out]; omega) (by rw [hcl.out]; omega))
        have Hcl2 := Lib.hid (show (swapL cur m (m + 1)).length = n by unfold swapL; simpa using hcl.out)
        obtain ⟨p3, k3, rfl, _, _⟩ := ho3.out.shape
        obtain ⟨OL, hOL⟩ : ∃ z, z = (upI outs).length := ⟨_, rfl⟩
        have hOl : OL ≤ 10 := by
          have h1 := upL_len 10 xs
          rw [hup', List.length_append] at h1
          rw [hOL]; unfold upI; rw [List.length_map]; omega
        have hofn := ho3.out.fn
        rw [← hOL] at hofn ⊢
        have Hofn := Lib.hid hofn
        have HOL := Lib.hid hOL
        have Hne := Lib.hid hne.out
        rw [← hOL] at Hne
        clear hf hff hok' hupf hup' hS hofn hOL
        go_wp2_with fail
        go_quiet (fail)
        go_wp2_with fail
        have Hw3 := Lib.hid (ho4.out.ints.drewN nq)
        have HSw := Lib.hid (HS.out (wo.drewN nq) Hw3.out)
        refine HSw.out.mono ?_
        rintro e w3 ⟨u3, rfl, hu3, hb3⟩
        have hb3' : Below wo.heap.size wo w3 := (Below.of_drewN wo nq).trans hb3
        have hu3' : OwnI 3 w3 wo.heap.size w3.heap.size u3 (swapL cur m (m + 1)) := hu3
        have hs3 : wo.heap.size ≤ w3.heap.size := hb3'.size
        obtain ⟨p6, k6, rfl, _, _⟩ := hu3'.shape
        rw [Hcl2.out] at hu3' ⊢
        have Hu3 := Lib.hid hu3'
        have Hb3 := Lib.hid hb3'
        have Hof3 := Lib.hid (Hofn.out.below hb3')
        have Hc1 := Lib.hid (show OL + 1 ≤ maxLen by unfold maxLen; omega)
        have Hc2 := Lib.hid (show (OL + 1) * 8 ≤ 140737488355328 by omega)
        have hso3 := Nat.le_trans hsz hs3
        clear hu3 hu3' hb3 hb3'
        go_wp2_with (at_builtin; go_must (refine wpList_append_G rfl (.tmp 31) (.tmp 33) 24 rfl 3 (.int .i64 0) 8 Try.underlying24 info_int rfl w.heap.size wo.heap.size _ OL (iv (upI outs)) rfl (Hof3.out.below (below_alloc _ _)) (by rw [size_alloc]; exact Nat.le_succ_of_le hso3) (by rw [size_alloc]; exact Nat.le_succ_of_le hs3) _ 1 _ rfl (rd_one _ _ _ rfl) (fun j _ => rfl) Hc1.out Hc2.out ?_; intro v4 w4 ho4' hg4 hpl4))
        have hfe := Hff.out
        go_roundg (f' * (n + 1) + (n - 0))
        case measure =>
          rw [hfe, Nat.add_mul]
          omega
        case rel =>
          have hal : Below w3.heap.size w3 (w3.alloc (.cells #[.int .i64 (m : Int)] 3)) := below_alloc _ _
          have hs4 := hg4.size
          rw [size_alloc] at hs4
          refine ⟨f', 0, _, outs ++ [m], p6, k6, rfl, Nat.zero_le _, by go_num, rfl, Hup.out, Hok.out, Hcl2.out, fun j hj => absurd hj (Nat.not_lt_zero _), ?_, ?_, ?_, ?_⟩
          · show OwnI _ _ _ _ _ (upI (outs ++ [m]))
            have e : upI (outs ++ [m]) = upI outs ++ [(m : Int)] := by unfold upI; simp
            rw [e]
            refine OwnI.snoc1 ?_
            rw [← HOL.out]
            exact ho4'
          · refine OwnI.mono (lo := wo.heap.size) (hi := w3.heap.size) ?_ hsz (by omega)
            refine ⟨ownsRow_of_block (Hu3.out.below hal).1 fun b hb => hg4.block b (Own.block (Hu3.out.below hal) hb).2.2 fun e => ?_, Hu3.out.2⟩
            have h1 := (Own.block Hu3.out hb).1
            have h2 := (Hofn.out.blocks b e.symm).2
            omega
          · intro b hb c hc e
            have h1 := Own.block Hu3.out hc
            rcases hpl4 b hb with h | h
            · have h2 := (Hofn.out.blocks b h).2
              omega
            · rw [size_alloc] at h
              omega
          · exact (hb.out.trans (Hb3.out.mono hsz)).trans ((hal.mono hso3).trans (grownBy_below hg4 Hof3.out.blocks (Nat.le_refl _) (by rw [size_alloc]; omega)))
      · have Hno2 := Lib.hid (show ∀ j, j < m + 1 → j + 1 < n → ¬ cur.getD j 0 < cur.getD (j + 1) 0 from fun j hj hj2 => by
          by_cases e : j = m
          · subst e; rw [← HX.out, ← HY.out]; exact hxy
          · exact hno.out j (by omega) hj2)
        go_wp2_with fail
        go_quiet (fail)
        go_wp2_with fail
        go_roundg (f * (n + 1) + (n - (m + 1)))
        case measure => omega
        case rel =>
          refine ⟨f, m + 1, cur, outs, _, k4, rfl, by omega, by go_num, rfl, hup.out, hok.out, hcl.out, Hno2.out, ?_, ?_, hne.out, Below.drewN hb.out _⟩
          · exact OwnI.below ho3.out (Below.of_drewN _ _)
          · exact OwnI.below ho4.out (Below.of_drewN _ _)
    · have hmn : ¬ ((m : Int) + 1 < (n : Int)) := by omega
      have hfn : fasc cur = none := fasc_none fun j hj => by
        rw [hcl.out] at hj
        exact hno.out j (by omega) (by omega)
      have hue : upL f cur = [] := by
        cases f with
        | zero => rfl
        | succ f => rw [upL, hfn]
      have Hfin := Lib.hid (show upL 10 xs = outs by rw [hup.out, hue, List.append_nil])
      obtain ⟨p3, k3, rfl, _, _⟩ := ho3.out.shape
      clear hfn hue
      go_wp2_with fail
      go_ret
      exact ⟨_, rfl, by rw [Hfin.out]; exact ho3.out, hb.out⟩

end Go.Proofs.Ytllmhicmikpfeaa

namespace Go.Proofs.Ytllmhicmikpfeaa
set_option linter.all false
set_option maxRecDepth 100000
open Go.RowKit

theorem rd_two (W : World) (a b c d : Int) : RdMn (W.alloc (.cells #[.int .i64 a, .int .i64 b, .int .i64 c, .int .i64 d] 81)) (.slice (some ⟨W.heap.size, 0, none⟩) 2 2) [(a, b), (c, d)] :=
  ⟨_, 2, rfl, ⟨Nat.le_refl _, by unfold maxLen; omega⟩, fun _ => ⟨W.heap.size, rfl, fun i hi => by
    have h : i = 0 ∨ i = 1 := by simp only [List.length_cons, List.length_nil] at hi; omega
    rcases h with rfl | rfl
    · exact ⟨cell_of_blk (heap_alloc_top _ _) (j := 0) rfl, cell_of_blk (heap_alloc_top _ _) (j := 1) rfl⟩
    · exact ⟨cell_of_blk (heap_alloc_top _ _) (j := 2) rfl, cell_of_blk (heap_alloc_top _ _) (j := 3) rfl⟩⟩⟩
theorem rd_onem (W : World) (a b : Int) : RdMn (W.alloc (.cells #[.int .i64 a, .int .i64 b] 81)) (.slice (some ⟨W.heap.size, 0, none⟩) 1 1) [(a, b)] :=
  ⟨_, 1, rfl, ⟨Nat.le_refl _, by unfold maxLen; omega⟩, fun _ => ⟨W.heap.size, rfl, fun i hi => by
    obtain rfl : i = 0 := by simp only [List.length_cons, List.length_nil] at hi; omega
    exact ⟨cell_of_blk (heap_alloc_top _ _) (j := 0) rfl, cell_of_blk (heap_alloc_top _ _) (j := 1) rfl⟩⟩⟩
theorem keepY {A W W' : World} {a : Addr} {x : Value} (ha : a.block < A.heap.size) (hb : Below W.heap.size W W') (h : W.cell? a = some x ∧ Below A.heap.size A W) : W'.cell? a = some x ∧ Below A.heap.size A W' :=
  ⟨by rw [hb.cell (Nat.lt_of_lt_of_le ha h.2.size)]; exact h.1, h.2.trans (hb.mono h.2.size)⟩
theorem fac_127 {i : Nat} (hi : i < 7) (y : Int) : BxP B127 (facP i y) := (fac_box hi y).mono fun k _ => by unfold B127; (try dsimp only); split <;> omega
theorem pow_small {m : Nat} (h : m ≤ 10) : (10 : Nat) ^ m ≤ 10000000000 ∧ (2 : Nat) ^ m ≤ 1024 :=
  ⟨Nat.le_trans (Nat.pow_le_pow_right (by omega) h) (by decide), Nat.le_trans (Nat.pow_le_pow_right (by omega) h) (by decide)⟩
theorem four_small {m : Nat} (h : m ≤ 9) : (4 : Nat) ^ m ≤ 262144 := Nat.le_trans (Nat.pow_le_pow_right (by omega) h) (by decide)
/-- what l2Times asks of a list on its way -/
theorem SpT.fit {n i j : Nat} {ys : List Int} {f G : Pl} (h : SpT n ys i j f) (hn : n ≤ 5) (hi : i < n) (hj : j < n - 1 - i) {y : Int} (hy : y.natAbs ≤ 9) (hG : GaOk (facP i y) G) :
    BxP B127 f ∧ BxP B127 G ∧ BxP B127 (mulP f G) ∧ f.length ≤ 1073741824 ∧ G.length ≤ 1073741824 ∧ f.length * G.length ≤ 1073741824 ∧ L1P f * L1P G ≤ 1000000000000000000 := by
  obtain ⟨p1, p2⟩ := pow_small (topS_le hn hi (show j ≤ n - 1 - i by omega))
  have hl := Nat.le_trans h.len p2
  have h1 := Nat.le_trans h.l1 p1
  have gl : G.length ≤ 2 := hG.len
  have g1 := hG.l1
  rw [fac_l1] at g1
  have bf : BxP (fun _ => 63) f := h.box.mono fun k hk => by
    have : stB k ≤ 4 := by unfold stB; omega
    (try dsimp only)
    split
    · split <;> omega
    · split <;> omega
  have bg : BxP (fun _ => 63) G := (hG.box (fac_box (show i < 7 by omega) y)).mono fun k hk => by (try dsimp only); split <;> omega
  refine ⟨bf.mono fun k _ => by unfold B127; omega, bg.mono fun k _ => by unfold B127; omega, (mulP_box bf bg).mono fun k _ => by unfold B127; omega, by omega, by omega, ?_, ?_⟩
  · have := Nat.mul_le_mul hl gl
    omega
  · have := Nat.mul_le_mul h1 (show L1P G ≤ 10 by omega)
    omega

theorem held_b {A W : World} {a : Addr} {x : Value} (h : W.cell? a = some x ∧ Below A.heap.size A W) : Below A.heap.size A W := h.2

theorem fold_step (T : Pl) {ups : List Nat} {m : Nat} (h : m < ups.length) : (ups.drop m).foldr dvP T = dvP (ups.getD m 0) ((ups.drop (m + 1)).foldr dvP T) := by
  rw [List.drop_eq_getElem_cons h, List.foldr_cons]
  simp [List.getD_eq_getElem?_getD, h]
theorem up_at {ups : List Nat} {m : Nat} (h : m < ups.length) : (upI ups).getD m 0 = ((ups.getD m 0 : Nat) : Int) := by
  unfold upI
  simp [List.getD_eq_getElem?_getD, h]
theorem up_mem {ups : List Nat} {m : Nat} (h : m < ups.length) : ups.getD m 0 ∈ ups := by
  rw [List.getD_eq_getElem?_getD, List.getElem?_eq_getElem h]
  exact List.getElem_mem h

set_option maxHeartbeats 8000000 in
theorem l3Double_any (n : Nat) (v u : Value) (xs ys : List Int) (w : World) (h : Ints w v xs) (hy : Ints w u ys) (hp : P5 n xs) (h1 : 1 ≤ n) (hyl : ys.length = n) (hy9 : ∀ j, (ys.getD j 0).natAbs ≤ 9) :
    Calls Try.prog 39 #[v, u] w fun e w' => ∃ r f m, e = .returned r ∧ m ≤ 10 ∧ SpD (dblP xs ys) m f ∧ RdMn w' r (msOf f) ∧ Below w.heap.size w w' := by
  have Hx := Lib.hid h
  have Hy := Lib.hid hy
  have Hp := Lib.hid hp
  have Hy9 := Lib.hid hy9
  have h5 := hp.le
  have hxl := hp.len
  have Hxl := Lib.hid hxl
  obtain ⟨p, cap, rfl, _, _⟩ := h
  obtain ⟨q, cap2, rfl, _, hyc⟩ := hy
  rw [hxl] at Hx ⊢
  rw [hyl] at hyc Hy ⊢
  have Hyc := Lib.hid hyc
  have Hst := Lib.hid (rd_onem w 0 1)
  clear hp hxl hyl hy9 hyc
  go_enter Try.func39, Try.ntmps39
  go_wp2_with fail
  go_loopg [5, 6] n (fun g s5 s6 wr => ∃ (i : Nat) (f : Pl), i ≤ n ∧ g = n - i ∧ s6 = .int .i64 (i : Int) ∧ Hid (SpT n ys i 0 f) ∧ Hid (RdMn wr s5 (msOf f)) ∧ Hid (Below w.heap.size w wr))
  case atStart => exact ⟨0, _, Nat.zero_le _, rfl, rfl, SpT.start n ys, Hst.out, below_alloc _ _⟩
  case round =>
    obtain ⟨i, f, hi, rfl, rfl, hS, hf, hb⟩ := hrel
    obtain ⟨wo, rfl⟩ : ∃ x : World, x = wr := ⟨_, rfl⟩
    by_cases hil : i < n
    · have hii : (i : Int) < (n : Int) := by omega
      go_wp2_with fail
      go_loopg [5, 7] (n - 1 - i) (fun g s5 s7 wz => ∃ (j : Nat) (f : Pl), j ≤ n - 1 - i ∧ g = n - 1 - i - j ∧ s7 = .int .i64 (j : Int) ∧ Hid (SpT n ys i j f) ∧ Hid (RdMn wz s5 (msOf f)) ∧ Hid (Below w.heap.size w wz))
      case atStart => exact ⟨0, f, Nat.zero_le _, rfl, rfl, hS.out, hf.out, hb.out⟩
      case round =>
        obtain ⟨j, f, hj, rfl, rfl, hS, hf, hbz⟩ := hrel
        obtain ⟨wz, rfl⟩ : ∃ x : World, x = wr := ⟨_, rfl⟩
        have hsz := hbz.out.size
        by_cases hjl : j < n - 1 - i
        · have hjj : (i : Int) + (j : Int) + 1 < (n : Int) := by omega
          have hjn : (j : Int) < (n : Int) := by omega
          obtain ⟨bq, oq, rfl, hcc⟩ := Hyc.out (by omega)
          have c0 := hcc j (by omega)
          have hbq : bq < wz.heap.size := Nat.lt_of_lt_of_le (World.block_lt_of_cell? w _ c0) hsz
          have cy := cell_below hbz.out c0
          unfold iv at cy
          have hY9 := Hy9.out j
          obtain ⟨Y, hY⟩ : ∃ y, y = ys.getD j 0 := ⟨_, rfl⟩
          rw [← hY] at cy hY9
          have HYs := Lib.hid (fun (G f' : Pl) (hG : GaOk (facP i Y) G) (hf' : GaOk (mulP f G) f') => hS.out.step (show i < 7 by omega) (by rw [← hY]; exact hY9) (by rw [← hY]; exact hG) hf')
          have HFit := Lib.hid (fun (G : Pl) (hG : GaOk (facP i Y) G) => hS.out.fit h5 hil hjl hY9 hG)
          obtain ⟨U, hU⟩ : ∃ U, U = pw128 i := ⟨_, rfl⟩
          have hms : msOf (facP i Y) = [(U, 1), (0, -Y)] := by
            unfold facP
            rw [hU, ← keyN_unit (show i < 7 by omega)]
            rfl
          have HUv := Lib.hid (fun W => show Calls Try.prog 68 #[.int .i64 (i : Int)] W fun e w' => e = .returned (.int .i64 U) ∧ Qt W w' by rw [hU]; exact l2Unit_any i W (by omega))
          have HGa := Lib.hid (fun (W : World) => l2Gather_any (.slice (some ⟨W.heap.size, 0, none⟩) 2 2) (facP i Y) (W.alloc (.cells #[.int .i64 U, .int .i64 1, .int .i64 0, .int .i64 (-Y)] 81)) (by rw [hms]; exact rd_two W U 1 0 (-Y)) (fac_127 (by omega) Y) (by show 2 ≤ _; omega) (by rw [fac_l1]; omega))
          have hY1 : -9 ≤ Y := by omega
          have hY2 : Y ≤ 9 := by omega
          have Hf := Lib.hid hf.out
          obtain ⟨p5, k5, rfl, _, _⟩ := hf.out.sh
          rw [msOf_length] at Hf ⊢
          clear hcc c0 hY hY9 hU hms hf hS
          go_wp2_with fail
          have f1 : IntKind.i64.wrap (-Y) = -Y := k64 (by omega) (by omega)
          go_region_held3 (fun w' => w'.cell? ⟨bq, oq + j, none⟩ = some (.int .i64 Y) ∧ Below wz.heap.size wz w')
            (first | with_reducible assumption | exact ⟨cy, (Below.refl _ _).drew⟩ | exact keepY hbq (hq1.below _) (by assumption) | exact keepY hbq hk2 (by assumption) | exact keepY hbq hk3 (by assumption) | exact keepY hbq (below_alloc _ _) (by assumption))
            (first
              | (go_at_call 68; refine (HUv.out _).mono ?_; rintro e w1 ⟨rfl, hq1⟩)
              | (go_at_call 67; refine (HGa.out _).mono ?_; rintro e w2 ⟨u2, G, rfl, ho2, hG2, hk2⟩; obtain ⟨p2, k2, rfl, _, _, _⟩ := ho2.shape; have ho2 := ho2.rd; rw [msOf_length] at ho2 ⊢)
              | (go_at_call 66; obtain ⟨t1, t2, t3, t4, t5, t6, t7⟩ := HFit.out G hG2; refine (l2Times_any _ _ f G _ (Hf.out.below (held_b (by assumption))) ho2 t1 t2 t3 t4 t5 t6 t7).mono ?_; rintro e w3 ⟨u3, f3, rfl, ho3, hG3, hk3⟩; obtain ⟨p3, k3, rfl, _, _, _⟩ := ho3.shape))
          all_goals clear f1
          have hBw3 : Below wz.heap.size wz w3 := held_b (by assumption)
          have HB3 := Lib.hid (hbz.out.trans (hBw3.mono hsz))
          have HS3 := Lib.hid (HYs.out G f3 hG2 hG3)
          have Hf3 := Lib.hid ho3.rd
          clear hBw3 hG2 hG3 ho3 ho2 hk2 hk3 hq1
          go_wp2_with fail
          go_roundg (n - 1 - i - (j + 1))
          case measure => omega
          case rel => exact ⟨j + 1, f3, by omega, rfl, by go_num, HS3.out, Hf3.out, HB3.out⟩
        · have hjj : ¬ ((i : Int) + (j : Int) + 1 < (n : Int)) := by omega
          have hjn : j = n - 1 - i := by omega
          have HR := Lib.hid (SpT.row (f := f) (by rw [← hjn]; exact hS.out) h5 hil)
          clear hjn
          go_wp2_with fail
          go_roundg (n - (i + 1))
          case measure => omega
          case rel => exact ⟨i + 1, f, by omega, rfl, by go_num, HR.out, hf.out, hbz.out⟩
    · have hii : ¬ ((i : Int) < (n : Int)) := by omega
      have hin : i = n := by omega
      have hD := SpT.done (by have := hS.out; rw [hin] at this; exact this) h5
      have HD := Lib.hid hD
      have HU := Lib.hid (l3Up_any n (.slice p n cap) xs wo (Hx.out.below hb.out) Hp.out h1)
      have hsz := hb.out.size
      obtain ⟨ups, hups⟩ : ∃ u, u = upL 10 xs := ⟨_, rfl⟩
      rw [← hups] at HU
      have Hups := Lib.hid hups
      have hul : ups.length ≤ 10 := by rw [hups]; exact upL_len 10 xs
      have Hlt := Lib.hid (fun k (hk : k ∈ ups) => upL_lt 10 xs (by rw [Hxl.out]; exact h5) k (by rw [← hups]; exact hk))
      obtain ⟨p5, k5, rfl, _, _⟩ := hf.out.sh
      have Hf := Lib.hid hf.out
      rw [msOf_length] at Hf ⊢
      clear hin hD hS hf hups
      go_wp2_with fail
      refine HU.out.mono ?_
      rintro e w2 ⟨u2, rfl, hu2, hb2⟩
      have Hi2 := Lib.hid hu2.ints
      have Hb2 := Lib.hid (hb.out.trans (hb2.mono hsz))
      have Hf2 := Lib.hid (Hf.out.below hb2)
      obtain ⟨p6, k6, rfl, _, _⟩ := hu2.shape
      obtain ⟨m0, hm0⟩ : ∃ m, m = ups.length := ⟨_, rfl⟩
      have hul2 : (upI ups).length = m0 := by unfold upI; rw [List.length_map, hm0]
      rw [hul2] at Hi2 ⊢
      obtain ⟨_, _, e6, _, hc6⟩ := Hi2.out
      injection e6 with e61 e62 e63
      subst e61
      rw [hul2] at hc6
      have Hc6 := Lib.hid hc6
      have Hm0 := Lib.hid hm0
      rw [← hm0] at hul
      clear hu2 hb2 hm0 hul2 hc6 e62 e63
      go_wp2_with fail
      go_loopg [5, 9] m0 (fun g s5 s9 wr => ∃ (r : Nat) (f : Pl), r ≤ m0 ∧ g = r ∧ s9 = .int .i64 ((r : Int) - 1) ∧ Hid (SpD ((ups.drop r).foldr dvP (topI n ys n)) (m0 - r) f) ∧ Hid (RdMn wr s5 (msOf f)) ∧ Hid (Below w.heap.size w wr) ∧ Hid (Below w2.heap.size w2 wr))
      case atStart =>
        refine ⟨m0, f, Nat.le_refl _, rfl, rfl, ?_, Hf2.out, Hb2.out, Below.refl _ _⟩
        show SpD _ _ _
        rw [List.drop_eq_nil_of_le (by rw [Hm0.out]; exact Nat.le_refl _), Nat.sub_self]
        exact HD.out
      case round =>
        obtain ⟨r, f, hr, rfl, rfl, hS, hf, hbz, hbu⟩ := hrel
        obtain ⟨wz, rfl⟩ : ∃ x : World, x = wr := ⟨_, rfl⟩
        have hszz := hbz.out.size
        rcases Nat.eq_zero_or_pos gk with h0 | h0
        · subst h0
          have hng : ¬ ((0 : Int) ≤ ((0 : Nat) : Int) - 1) := by decide
          have hfin := hS.out
          rw [List.drop_zero, Hups.out, ← low_up] at hfin
          have Hfin := Lib.hid (show SpD (dblP xs ys) (m0 - 0) f by unfold dblP; rw [Hxl.out]; exact hfin)
          obtain ⟨p5, k5, rfl, _, _⟩ := hf.out.sh
          clear hfin hS
          go_wp2_with fail
          go_ret
          first
            | exact ⟨_, f, m0 - 0, rfl, by omega, Hfin.out, hf.out, hbz.out⟩
            | exact ⟨_, rfl, f, m0 - 0, by omega, Hfin.out, hf.out, hbz.out⟩
        · obtain ⟨m, rfl⟩ : ∃ m, gk = m + 1 := ⟨gk - 1, by omega⟩
          have hcast : (((m + 1 : Nat) : Int) - 1) = (m : Int) := by omega
          rw [hcast]
          have hmm0 : m < ups.length := by rw [← Hm0.out]; omega
          have hmi : (m : Int) < (m0 : Int) := by omega
          have hm1 : (0 : Int) ≤ (m : Int) := by omega
          obtain ⟨b6, o6, rfl, hcc⟩ := Hc6.out (by omega)
          have c1 := cell_below hbu.out (hcc m (by omega))
          unfold iv at c1
          rw [up_at hmm0] at c1
          have hk4 := Hlt.out _ (up_mem hmm0)
          have Hfo := Lib.hid (fold_step (topI n ys n) hmm0)
          obtain ⟨k, hk⟩ : ∃ k, k = ups.getD m 0 := ⟨_, rfl⟩
          rw [← hk] at c1 hk4 Hfo
          have h49 := four_small (m := m0 - (m + 1)) (by omega)
          have hfl : f.length ≤ 268435456 := Nat.le_trans hS.out.len (by omega)
          have hf1 : L1P f ≤ 250000000000000000 := Nat.le_trans hS.out.l1 (by omega)
          obtain ⟨p5, k5, rfl, _, _⟩ := hf.out.sh
          have HDv := Lib.hid (l2Divided_any _ f k wz hf.out hS.out.box hk4 hfl hf1)
          have HSt := Lib.hid (fun (f' : Pl) (h : GaOk (dvP k f) f') => hS.out.step hk4 h)
          rw [msOf_length] at HDv ⊢
          clear hcc hk hcast h49 hfl hf1 hS hf
          go_wp2_with fail
          refine HDv.out.mono ?_
          rintro e w3 ⟨u3, f3, rfl, ho3, hG3, hb3⟩
          have HS3 := Lib.hid (HSt.out f3 hG3)
          have Hf3 := Lib.hid ho3.rd
          have Hb3 := Lib.hid (hbz.out.trans (hb3.mono hszz))
          have Hb4 := Lib.hid (hbu.out.trans (hb3.mono hbu.out.size))
          obtain ⟨p7, k7, rfl, _, _, _⟩ := ho3.shape
          clear ho3 hG3 hb3
          go_wp2_with fail
          go_roundg m
          case measure => omega
          case rel =>
            refine ⟨m, f3, by omega, rfl, rfl, ?_, Hf3.out, Hb3.out, Hb4.out⟩
            show SpD _ _ _
            rw [Hfo.out, show m0 - m = m0 - (m + 1) + 1 by omega]
            exact HS3.out

end Go.Proofs.Ytllmhicmikpfeaa

namespace Go.Proofs.Ytllmhicmikpfeaa
set_option linter.all false
open Go.RowKit

/-- class k of a list is as it should be -/
def clAt (cs : List Cls) (k : Nat) : Bool :=
  permOk (cs.getD k clD).1 && decide (trimN (cs.getD k clD).1 (cs.getD k clD).1.length = (cs.getD k clD).1.length) && !decide ((cs.getD k clD).2 = 0) && !decide ((cs.getD k clD).2 < -1000000) && !decide (1000000 < (cs.getD k clD).2) &&
    (!decide (0 < k) || ltB (cs.getD (k - 1) clD).1 (cs.getD k clD).1)
def clsOk (cs : List Cls) : Bool := decide (cs.length ≤ 100) && (List.range cs.length).all (clAt cs)
theorem clsOk_big {cs : List Cls} (h : 100 < cs.length) : clsOk cs = false := by
  unfold clsOk; rw [decide_eq_false (by omega)]; rfl
theorem clsOk_bad {cs : List Cls} {k : Nat} (hk : k < cs.length) (h : clAt cs k = false) : clsOk cs = false := by
  unfold clsOk
  have : (List.range cs.length).all (clAt cs) = false := List.all_eq_false.2 ⟨k, List.mem_range.2 hk, by simp [h]⟩
  rw [this, Bool.and_false]
theorem clsOk_yes {cs : List Cls} (hl : cs.length ≤ 100) (h : ∀ k, k < cs.length → clAt cs k = true) : clsOk cs = true := by
  unfold clsOk
  rw [decide_eq_true hl, Bool.true_and, List.all_eq_true]
  exact fun k hk => h k (List.mem_range.1 hk)
theorem implTrim_sh (v : Value) (xs : List Int) (w : World) (h : Ints w v xs) (hp : permOk xs = true) :
    Calls Try.prog 83 #[v] w fun e w' => ∃ (p : Option Addr) (k : Nat), e = .returned (.slice p (trimN xs xs.length) k) ∧ Below w.heap.size w w' :=
  (implTrim_yes v xs w h hp).mono fun e w' ⟨u, h1, h2, h3⟩ => by
    obtain ⟨p, k, rfl, _, _⟩ := h2.shape
    exact ⟨p, k, by rw [h1, trimL_length], h3⟩
theorem keep3w {wr W W' : World} {a0 a1 a2 : Addr} {v0 v1 v2 : Value} (hb : Below W.heap.size W W') (h : (W.cell? a0 = some v0 ∧ W.cell? a1 = some v1 ∧ W.cell? a2 = some v2) ∧ Below wr.heap.size wr W) :
    (W'.cell? a0 = some v0 ∧ W'.cell? a1 = some v1 ∧ W'.cell? a2 = some v2) ∧ Below wr.heap.size wr W' :=
  ⟨⟨cell_below hb h.1.1, cell_below hb h.1.2.1, cell_below hb h.1.2.2⟩, below_trans h.2 hb⟩

theorem Qt.belowS {w w' : World} (h : Qt w w') : Below w.heap.size w w' := h.below _
theorem l1In_b (a b c : Int) (w : World) (r : Bool) (h : decide (b ≤ a ∧ a ≤ c) = r) : Calls Try.prog 42 #[.int .i64 a, .int .i64 b, .int .i64 c] w fun e w' => e = .returned (.bool r) ∧ w = w' := h ▸ l1In_any a b c w

end Go.Proofs.Ytllmhicmikpfeaa

namespace Go.Proofs.Ytllmhicmikpfeaa
set_option linter.all false
set_option maxRecDepth 100000
open Go.RowKit

/-- different exponents, in order, and small numbers -/
def PkD (l : Pl) : Prop := (∀ t ∈ l, -1000000 ≤ t.2 ∧ t.2 ≤ 1000000) ∧ l.Pairwise fun a b => keyN b.1 < keyN a.1
theorem PkD.nil : PkD [] := ⟨(fun t ht => by cases ht), List.Pairwise.nil⟩
theorem PkD.first {t : List Int × Int} (h : -1000000 ≤ t.2 ∧ t.2 ≤ 1000000) : PkD [t] := ⟨fun s hs => by rw [List.mem_singleton] at hs; rw [hs]; exact h, List.pairwise_singleton _ _⟩
theorem PkD.snoc {l : Pl} {s t : List Int × Int} (h : PkD (l ++ [s])) (ht : -1000000 ≤ t.2 ∧ t.2 ≤ 1000000) (hk : keyN t.1 < keyN s.1) : PkD ((l ++ [s]) ++ [t]) := by
  refine ⟨fun r hr => ?_, ?_⟩
  · rcases List.mem_append.1 hr with hr | hr
    · exact h.1 r hr
    · rw [List.mem_singleton] at hr; rw [hr]; exact ht
  · rw [List.pairwise_append]
    refine ⟨h.2, List.pairwise_singleton _ _, fun a ha b hb => ?_⟩
    rw [List.mem_singleton] at hb
    rw [hb]
    rcases List.mem_append.1 ha with ha | ha
    · have := (List.pairwise_append.1 h.2).2.2 a ha s (List.mem_singleton.2 rfl)
      omega
    · rw [List.mem_singleton] at ha; rw [ha]; exact hk
theorem PkD.nodup {l : Pl} (h : PkD l) : (l.map (·.1)).Nodup := by
  refine List.pairwise_map.2 (h.2.imp fun {a b} hab e => ?_)
  rw [e] at hab
  omega
theorem PkD.step {ts : Pl} {m : Nat} (hm : m + 1 < ts.length) (h : PkD (ts.take (m + 1))) (ht : -1000000 ≤ (ts.getD (m + 1) tmD).2 ∧ (ts.getD (m + 1) tmD).2 ≤ 1000000) (hk : keyN (ts.getD (m + 1) tmD).1 < keyN (ts.getD m tmD).1) : PkD (ts.take (m + 1 + 1)) := by
  rw [takeT_snoc hm]
  rw [takeT_snoc (show m < ts.length by omega)] at h ⊢
  exact h.snoc ht hk

set_option maxHeartbeats 8000000 in
theorem specPolyOk_any (v : Value) (ts : Pl) (w : World) (h : RdCl w v ts) (hbx : BxP stB ts) (h600 : ts.length ≤ 600) (hc : ∀ t ∈ ts, -1000000000000000000 ≤ t.2 ∧ t.2 ≤ 1000000000000000000) :
    Calls Try.prog 65 #[v] w fun e w' => ∃ b : Bool, e = .returned (.bool b) ∧ (b = true → PkD ts) ∧ Below w.heap.size w w' := by
  have Hbx := Lib.hid hbx
  have Hcc := Lib.hid hc
  obtain ⟨f, h1, h2⟩ := h
  obtain ⟨p, cap, rfl, ⟨hn1, hn2⟩, hc1⟩ := h1.two
  have Hc := Lib.hid hc1
  have Hf := Lib.hid h2
  unfold maxLen at hn2
  obtain ⟨N, hN⟩ : ∃ N, N = ts.length := ⟨_, rfl⟩
  have HN := Lib.hid hN
  have e1 : ¬ (600 : Int) < (N : Int) := by omega
  rw [← hN] at hn1 Hc Hf h600 ⊢
  clear h1 h2 hc1 hN hbx hc
  go_enter Try.func65, Try.ntmps65
  go_wp2_with fail
  clear e1
  go_loopg [3] N (fun g i wr => ∃ k : Nat, k ≤ N ∧ g = N - k ∧ i = .int .i64 (k : Int) ∧ Hid (PkD (ts.take k)) ∧ Hid (Below w.heap.size w wr))
  case atStart => exact ⟨0, Nat.zero_le _, rfl, rfl, PkD.nil, Below.refl _ _⟩
  case round =>
    obtain ⟨k, hk, rfl, rfl, hpk, hb⟩ := hrel
    obtain ⟨wo, rfl⟩ : ∃ x : World, x = wr := ⟨_, rfl⟩
    by_cases hlt : k < N
    · have hki : (k : Int) < (N : Int) := by omega
      obtain ⟨bx, rfl, hcc⟩ := Hc.out (by omega)
      obtain ⟨a0, a1⟩ := hcc k hlt
      have c0 := cell_below hb.out a0
      have c1 := cell_below hb.out a1
      have hfk := (Hf.out k hlt).below hb.out
      have hkt : k < ts.length := by rw [← HN.out]; exact hlt
      have hbk := Hbx.out _ (getD_tm hkt)
      have hck := Hcc.out _ (getD_tm hkt)
      change wo.cell? _ = some (Value.int .i64 (ts.getD k tmD).2) at c1
      change Ints wo (f k) (ts.getD k tmD).1 at hfk
      obtain ⟨xs, hxs⟩ : ∃ x, x = (ts.getD k tmD).1 := ⟨_, rfl⟩
      obtain ⟨c, hcv⟩ : ∃ x, x = (ts.getD k tmD).2 := ⟨_, rfl⟩
      rw [← hxs] at hfk hbk
      rw [← hcv] at c1 hck
      obtain ⟨hc0, hcn⟩ := hck
      have Hfk := Lib.hid hfk
      have Hbk := Lib.hid hbk
      have Hxs := Lib.hid hxs
      have Hcv := Lib.hid hcv
      obtain ⟨px, kx, hxe, ⟨hx1, hx2⟩, hxc⟩ := hfk
      rw [hbk.1] at hxe hx1 hxc
      rw [hxe] at c0
      have Hfx := Lib.hid (show Ints wo (.slice px 7 kx) xs by have := Hfk.out; rw [hxe] at this; exact this)
      clear hcc a0 a1 hbk hxs hcv hx1 hx2 hxe
      by_cases z0 : c = 0
      · subst z0
        go_wp2_with fail
        go_ret
        first | exact ⟨false, rfl, (fun h => by cases h), hb.out⟩ | exact Or.inl ⟨rfl, hb.out⟩
      · have z1 : (c == 0) = false := by simp [z0]
        have HIn := Lib.hid (l1In_any c (-1000000) 1000000 wo)
        go_wp2_with fail
        refine HIn.out.mono ?_
        rintro e w2 ⟨rfl, rfl⟩
        by_cases hsm : -1000000 ≤ c ∧ c ≤ 1000000
        · rw [decide_eq_true hsm]
          have Hsm := Lib.hid hsm
          have HI5 := Lib.hid (fun (a : Int) (W : World) (h : 0 ≤ a ∧ a ≤ 24) => l1In_b a 0 24 W true (decide_eq_true h))
          obtain ⟨ob, oo, rfl, hxd⟩ := hxc (by omega)
          have Hxd := Lib.hid hxd
          clear hsm hxc hxd HIn
          go_wp2_with fail
          go_loopg [4] 7 (fun g i wr => ∃ j : Nat, j ≤ 7 ∧ g = 7 - j ∧ i = .int .i64 (j : Int) ∧ wr = wo)
          case atStart => exact ⟨0, by omega, rfl, rfl, rfl⟩
          case round =>
            obtain ⟨j, hj, rfl, rfl, rfl⟩ := hrel
            by_cases hlj : j < 7
            · have hji : (j : Int) < 7 := by omega
              have d1 := Hxd.out j hlj
              unfold iv at d1
              have r1 := Hbk.out.2 j hlj
              obtain ⟨x, hx⟩ : ∃ x, x = xs.getD j 0 := ⟨_, rfl⟩
              rw [← hx] at d1 r1
              have r2 : 0 ≤ x ∧ x ≤ 24 := by
                have : stB j ≤ 4 := by unfold stB; omega
                omega
              have HI6 := Lib.hid (HI5.out x wr r2)
              clear hx r1 r2
              go_wp2_with fail
              refine HI6.out.mono ?_
              rintro e w3 ⟨rfl, rfl⟩
              go_wp2_with fail
              go_roundg (7 - (j + 1))
              case measure => omega
              case rel => exact ⟨j + 1, by omega, rfl, by go_num, rfl⟩
            · obtain rfl : j = 7 := by omega
              go_wp2_with fail
              by_cases hk0 : k = 0
              · subst hk0
                have Hp1 := Lib.hid (show PkD (ts.take (0 + 1)) by
                  rw [takeT_snoc (show 0 < ts.length by rw [← HN.out]; exact hlt)]
                  exact PkD.first (by rw [← Hcv.out]; exact Hsm.out))
                have g1 : decide ((0 : Int) < ((0 : Nat) : Int)) = false := rfl
                go_quiet (fail)
                go_wp2_with fail
                go_roundg (N - (0 + 1))
                case measure => omega
                case rel => exact ⟨0 + 1, by omega, rfl, by go_num, Hp1.out, Below.drewN hb.out _⟩
              · obtain ⟨m, hm⟩ : ∃ m, m = k - 1 := ⟨_, rfl⟩
                have hmN : m < N := by omega
                have hmi : (m : Int) < (N : Int) := by omega
                have hm0 : (0 : Int) ≤ (m : Int) := by omega
                obtain ⟨_, e1, hcc⟩ := Hc.out (by omega)
                injection e1 with e1
                injection e1 with e1
                subst e1
                have q0 := cell_below hb.out (hcc m hmN).1
                have hfm := (Hf.out m hmN).below hb.out
                have hmt : m < ts.length := by rw [← HN.out]; exact hmN
                have hbm := Hbx.out _ (getD_tm hmt)
                change Ints wr (f m) (ts.getD m tmD).1 at hfm
                obtain ⟨ys, hys⟩ : ∃ y, y = (ts.getD m tmD).1 := ⟨_, rfl⟩
                rw [← hys] at hfm hbm
                obtain ⟨py, ky, hye, _, _⟩ := id hfm
                rw [hbm.1] at hye
                rw [hye] at q0 hfm
                have hkm : k = m + 1 := by omega
                obtain ⟨KX, hKX⟩ : ∃ K, K = keyN xs := ⟨_, rfl⟩
                obtain ⟨KY, hKY⟩ : ∃ K, K = keyN ys := ⟨_, rfl⟩
                have HqX := Lib.hid (fun q => show Calls Try.prog 81 #[.slice (some ⟨ob, oo, none⟩) 7 kx] (wr.drewN q) fun e w' => e = .returned (.int .i64 KX) ∧ Qt (wr.drewN q) w' by
                  rw [hKX]; exact l2Key_any _ xs _ (Hfx.out.drewN q) (Hbk.out.mono fun k _ => by unfold stB B127; omega))
                have HqY := Lib.hid (fun q => show Calls Try.prog 81 #[.slice py 7 ky] (wr.drewN q) fun e w' => e = .returned (.int .i64 KY) ∧ Qt (wr.drewN q) w' by
                  rw [hKY]; exact l2Key_any _ ys _ (hfm.drewN q) (hbm.mono fun k _ => by unfold stB B127; omega))
                have Hst := Lib.hid (fun (h : KX < KY) => show PkD (ts.take (k + 1)) by
                  rw [hkm] at hpk ⊢
                  have h1 := hpk.out
                  refine h1.step (by rw [← HN.out]; omega) ?_ ?_
                  · rw [← hkm, ← Hcv.out]; exact Hsm.out
                  · rw [← hkm, ← Hxs.out, ← hys, ← hKX, ← hKY]; exact h)
                have Hw := Lib.hid (show IntKind.i64.wrap ((k : Int) - 1) = (m : Int) by rw [k64 (by omega) (by omega)]; omega)
                have hk1 : 0 < k := by omega
                clear hye hfm hbm hys hkm hm hk0 hKX hKY hmt hcc
                by_cases hky : KY ≤ KX
                · have g1 : decide (0 < k) = true := decide_eq_true hk1
                  have g2 : (0 : Int) < (k : Int) := by omega
                  have g3 : decide (KY ≤ KX) = true := decide_eq_true hky
                  have hw := Hw.out
                  go_quiet (first | (go_at_call 81; first | with_reducible refine quiet_q (HqX.out _) | with_reducible refine quiet_q (HqY.out _)))
                  clear hw
                  go_wp2_with fail
                  go_ret
                  first | exact ⟨false, rfl, (fun h => by cases h), Below.drewN hb.out _⟩ | exact Or.inl ⟨rfl, Below.drewN hb.out _⟩
                · have g1 : decide (0 < k) = true := decide_eq_true hk1
                  have g2 : (0 : Int) < (k : Int) := by omega
                  have g3 : decide (KY ≤ KX) = false := decide_eq_false hky
                  have Hst2 := Lib.hid (Hst.out (by omega))
                  have hw := Hw.out
                  go_quiet (first | (go_at_call 81; first | with_reducible refine quiet_q (HqX.out _) | with_reducible refine quiet_q (HqY.out _)))
                  clear hw
                  go_wp2_with fail
                  go_roundg (N - (k + 1))
                  case measure => omega
                  case rel => exact ⟨k + 1, by omega, rfl, by go_num, Hst2.out, Below.drewN hb.out _⟩
        · rw [decide_eq_false hsm]
          go_wp2_with fail
          go_ret
          first | exact ⟨false, rfl, (fun h => by cases h), hb.out⟩ | exact Or.inl ⟨rfl, hb.out⟩
    · have hlti : ¬ (k : Int) < (N : Int) := by omega
      have Hfin := Lib.hid (show PkD ts by
        have := hpk.out
        rw [List.take_of_length_le (by rw [← HN.out]; omega)] at this
        exact this)
      go_wp2_with fail
      go_ret
      first | exact ⟨true, rfl, (fun _ => Hfin.out), hb.out⟩ | exact Or.inr ⟨rfl, Hfin.out, hb.out⟩

end Go.Proofs.Ytllmhicmikpfeaa
