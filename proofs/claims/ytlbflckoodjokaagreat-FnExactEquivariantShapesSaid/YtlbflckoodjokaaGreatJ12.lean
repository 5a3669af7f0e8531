/-
  The values of a permutation, times the number at a place: the rule of Chevalley. Plain.
  Values as sums of values of permutations: products have such sums, there is but one, and its numbers are not great. Plain.
  Slices of classes: copied, measured, compared by the law's own helpers.
-/
import Derived.Test.YtlbflckoodjokaaGreatJ11
import Derived.Test.YtlbflckoodjokaaGreatJ4
import Derived.Test.YtlbflckoodjokaaGreatJ1
import Derived.Test.YtlbflckoodjokaaGreatJ3
import Derived.Test.YtlbflckoodjokaaGreatJ2
namespace Go.Proofs.YtlbflckoodjokaaGreat
set_option linter.all false
open Go.RowKit

def sumF (F : List Int → Int) (L : List (List Int)) : Int := (L.map F).sum
theorem sumF_nil (F : List Int → Int) : sumF F [] = 0 := rfl
theorem sumF_cons (F : List Int → Int) (x : List Int) (L : List (List Int)) : sumF F (x :: L) = F x + sumF F L := by simp [sumF]
theorem sumF_append (F : List Int → Int) : ∀ A B : List (List Int), sumF F (A ++ B) = sumF F A + sumF F B
  | [], B => by rw [List.nil_append, sumF_nil, Int.zero_add]
  | x :: A, B => by rw [List.cons_append, sumF_cons, sumF_cons, sumF_append F A B, Int.add_assoc]
theorem sumF_perm (F : List Int → Int) {A B : List (List Int)} (h : A.Perm B) : sumF F A = sumF F B := by
  induction h with
  | nil => rfl
  | cons x _ ih => rw [sumF_cons, sumF_cons, ih]
  | swap x y l => simp only [sumF_cons]; omega
  | trans _ _ a b => exact a.trans b
theorem sumF_congr {F G : List Int → Int} : ∀ {L : List (List Int)}, (∀ x ∈ L, F x = G x) → sumF F L = sumF G L
  | [], _ => rfl
  | x :: L, h => by rw [sumF_cons, sumF_cons, h x List.mem_cons_self, sumF_congr fun y hy => h y (List.mem_cons_of_mem _ hy)]
theorem sumF_zero {F : List Int → Int} : ∀ {L : List (List Int)}, (∀ x ∈ L, F x = 0) → sumF F L = 0
  | [], _ => rfl
  | x :: L, h => by rw [sumF_cons, h x List.mem_cons_self, sumF_zero fun y hy => h y (List.mem_cons_of_mem _ hy)]; rfl
theorem sumF_add (F G : List Int → Int) : ∀ L : List (List Int), sumF (fun x => F x + G x) L = sumF F L + sumF G L
  | [] => rfl
  | x :: L => by rw [sumF_cons, sumF_cons, sumF_cons, sumF_add F G L]; omega
theorem sumF_sub (F G : List Int → Int) : ∀ L : List (List Int), sumF (fun x => F x - G x) L = sumF F L - sumF G L
  | [] => rfl
  | x :: L => by rw [sumF_cons, sumF_cons, sumF_cons, sumF_sub F G L]; omega
theorem sumF_mul (a : Int) (F : List Int → Int) : ∀ L : List (List Int), sumF (fun x => a * F x) L = a * sumF F L
  | [] => by rw [sumF_nil, sumF_nil, Int.mul_zero]
  | x :: L => by rw [sumF_cons, sumF_cons, sumF_mul a F L, Int.mul_add]
theorem sumF_swap (G : List Int → List Int → Int) (B : List (List Int)) : ∀ A : List (List Int), sumF (fun w => sumF (fun u => G w u) B) A = sumF (fun u => sumF (fun w => G w u) A) B
  | [] => by rw [sumF_nil]; exact (sumF_zero fun _ _ => rfl).symm
  | x :: A => by
    rw [sumF_cons, sumF_swap G B A, ← sumF_add]
    exact sumF_congr fun u _ => (sumF_cons (fun w => G w u) x A).symm

/-- the permutations one longer, by an exchange of a place with one behind it, and with one ahead of it -/
def cvUp (v : List Int) (k : Nat) : List (List Int) := ((List.range v.length).filter fun j => decide (k < j) && decide (lnN (swapL v k j) = lnN v + 1)).map fun j => swapL v k j
def cvDn (v : List Int) (k : Nat) : List (List Int) := ((List.range k).filter fun j => decide (lnN (swapL v j k) = lnN v + 1)).map fun j => swapL v j k
def dwn (m : Nat) (L : List (List Int)) : List (List Int) := (L.filter fun u => !ascB m u).map (sw m)
def swN (m k : Nat) : Nat := if k = m then m + 1 else if k = m + 1 then m else k
def chA (v : List Int) (k m : Nat) : List (List Int) := (if k = m then [v] else []) ++ ((if ascB m v then [] else cvUp (sw m v) (swN m k)) ++ dwn m (cvDn v k))
def chB (v : List Int) (k m : Nat) : List (List Int) := (if k = m + 1 then [v] else []) ++ ((if ascB m v then [] else cvDn (sw m v) (swN m k)) ++ dwn m (cvUp v k))
def chvB (v : List Int) : Bool := (List.range v.length).all fun k => ((List.range (v.length - 1)).all fun m => (chA v k m).isPerm (chB v k m)) &&
  (cvUp v k).all (fun u => permOk u && decide (u.length = v.length) && decide (lnN u = lnN v + 1)) && (cvDn v k).all (fun u => permOk u && decide (u.length = v.length) && decide (lnN u = lnN v + 1))
set_option maxRecDepth 100000 in
theorem chv_all : all5 chvB = true := by decide +kernel
theorem chv_at {n : Nat} {v : List Int} (hv : P5 n v) {k : Nat} (hk : k < n) : (∀ m, m + 1 < n → (chA v k m).Perm (chB v k m)) ∧ (∀ u ∈ cvUp v k, P5 n u ∧ lnN u = lnN v + 1) ∧ ∀ u ∈ cvDn v k, P5 n u ∧ lnN u = lnN v + 1 := by
  have := all5_at chv_all hv.ok (by have := hv.len; have := hv.le; omega)
  simp only [chvB, List.all_eq_true, List.mem_range, Bool.and_eq_true, decide_eq_true_eq] at this
  obtain ⟨⟨h1, h2⟩, h3⟩ := this k (by rw [hv.len]; exact hk)
  refine ⟨fun m hm => List.isPerm_iff.1 (h1 m (by rw [hv.len]; omega)), fun u hu => ?_, fun u hu => ?_⟩
  · obtain ⟨⟨a, b⟩, c⟩ := h2 u hu
    exact ⟨⟨a, by rw [b, hv.len], hv.le⟩, c⟩
  · obtain ⟨⟨a, b⟩, c⟩ := h3 u hu
    exact ⟨⟨a, by rw [b, hv.len], hv.le⟩, c⟩

def yAt (ys w : List Int) (k : Nat) : Int := ys.getD (w.getD k 0).toNat 0
theorem df_y (ys w : List Int) (k : Nat) : df ys w k = yAt ys w (k + 1) - yAt ys w k := rfl
theorem yAt_sw {ys w : List Int} {m k : Nat} (hm : m + 1 < w.length) : yAt ys (sw m w) k = yAt ys w (swN m k) := by
  unfold yAt swN
  rw [sw_getD hm]
  by_cases h1 : k = m
  · rw [if_pos h1, if_neg (by omega), if_pos h1]
  · by_cases h2 : k = m + 1
    · rw [if_pos h2, if_neg h1, if_pos h2]
    · rw [if_neg h2, if_neg h1, if_neg h1, if_neg h2]
theorem swN_swN (m k : Nat) : swN m (swN m k) = k := by
  unfold swN
  by_cases h1 : k = m
  · rw [if_pos h1, if_neg (by omega), if_pos rfl, h1]
  · by_cases h2 : k = m + 1
    · rw [if_neg h1, if_pos h2, if_pos rfl, h2]
    · rw [if_neg h1, if_neg h2, if_neg h1, if_neg h2]
theorem swN_lt {m k n : Nat} (hk : k < n) (hm : m + 1 < n) : swN m k < n := by
  unfold swN
  by_cases h1 : k = m
  · rw [if_pos h1]; exact hm
  · rw [if_neg h1]
    by_cases h2 : k = m + 1
    · rw [if_pos h2]; omega
    · rw [if_neg h2]; exact hk
/-- a sum of values, one step on -/
theorem sumF_rec {n : Nat} {ys w : List Int} (hw : P5 n w) {m : Nat} (hm : m + 1 < n) : ∀ {L : List (List Int)}, (∀ u ∈ L, P5 n u) →
    sumF (fun u => FW n ys u (sw m w)) L = sumF (fun u => FW n ys u w) L + df ys w m * sumF (fun u => FW n ys u w) (dwn m L)
  | [], _ => by simp [sumF, dwn]
  | x :: L, h => by
    have ih := sumF_rec (ys := ys) hw hm (L := L) fun u hu => h u (List.mem_cons_of_mem _ hu)
    have hr := FW_rec (ys := ys) (h x List.mem_cons_self) hw hm
    rw [sumF_cons, sumF_cons, ih, hr]
    cases ha : ascB m x with
    | true =>
      have : dwn m (x :: L) = dwn m L := by simp [dwn, ha]
      rw [this]; simp; omega
    | false =>
      have : dwn m (x :: L) = sw m x :: dwn m L := by simp [dwn, ha]
      rw [this, sumF_cons, Int.mul_add]; simp; omega
theorem FW_id {n : Nat} {ys v : List Int} (hy : ys.length = n) (h1 : 1 ≤ n) (hv : P5 n v) : FW n ys v (idL n) = if idL n = v then 1 else 0 :=
  sum_val hy h1 hv.le 0 [] v rfl hv (by simp)
theorem chev {n : Nat} {ys : List Int} (hy : ys.length = n) (h1 : 1 ≤ n) : ∀ (t : Nat) (w : List Int), lnN w = t → P5 n w → ∀ (v : List Int) (k : Nat), P5 n v → k < n →
    yAt ys w k * FW n ys v w = yAt ys v k * FW n ys v w + sumF (fun u => FW n ys u w) (cvUp v k) - sumF (fun u => FW n ys u w) (cvDn v k) := by
  intro t
  induction t with
  | zero =>
    intro w ht hw v k hv hk
    obtain rfl := id_of_len hw ht
    have hc := chv_at hv hk
    have z : ∀ L : List (List Int), (∀ u ∈ L, P5 n u ∧ lnN u = lnN v + 1) → sumF (fun u => FW n ys u (idL n)) L = 0 := fun L hL => sumF_zero fun u hu => by
      obtain ⟨a, b⟩ := hL u hu
      rw [FW_id hy h1 a, if_neg]
      intro e
      rw [← e, ht] at b
      omega
    rw [z _ hc.2.1, z _ hc.2.2, FW_id hy h1 hv]
    by_cases e : idL n = v
    · rw [← e]; omega
    · rw [if_neg e]; omega
  | succ t ih =>
    intro w ht hw v k hv hk
    obtain ⟨m, hm, hd⟩ : ∃ k, k + 1 < n ∧ ascB k w = false := ((blid_at hw).2).resolve_left (by omega)
    have hl := len_desc hw hm hd
    have hu := hw.sw hm
    have ss : sw m (sw m w) = w := sw_sw (by have := hw.len; omega)
    obtain ⟨x, hx⟩ : ∃ x, x = sw m w := ⟨_, rfl⟩
    rw [← hx] at hl hu ss
    rw [← ss]
    have hc := chv_at hv hk
    have hp := sumF_perm (fun u => FW n ys u x) (hc.1 m hm)
    have i1 := ih x (by omega) hu v k hv hk
    rw [yAt_sw (by have := hu.len; omega), sumF_rec hu hm fun u h => (hc.2.1 u h).1, sumF_rec hu hm fun u h => (hc.2.2 u h).1, FW_rec hv hu hm]
    have hy1 : yAt ys x (swN m k) = yAt ys x k + (if k = m then df ys x m else if k = m + 1 then - df ys x m else 0) := by
      unfold swN
      rw [df_y]
      by_cases e1 : k = m
      · rw [if_pos e1, if_pos e1, e1]; omega
      · rw [if_neg e1, if_neg e1]
        by_cases e2 : k = m + 1
        · rw [if_pos e2, if_pos e2, e2]; omega
        · rw [if_neg e2, if_neg e2]; omega
    unfold chA chB at hp
    rw [sumF_append, sumF_append, sumF_append, sumF_append] at hp
    obtain ⟨a, hda⟩ : ∃ a, a = df ys x m := ⟨_, rfl⟩
    obtain ⟨U, hU⟩ : ∃ U, U = sumF (fun u => FW n ys u x) (cvUp v k) := ⟨_, rfl⟩
    obtain ⟨D, hD⟩ : ∃ U, U = sumF (fun u => FW n ys u x) (cvDn v k) := ⟨_, rfl⟩
    obtain ⟨U', hU'⟩ : ∃ U, U = sumF (fun u => FW n ys u x) (dwn m (cvUp v k)) := ⟨_, rfl⟩
    obtain ⟨D', hD'⟩ : ∃ U, U = sumF (fun u => FW n ys u x) (dwn m (cvDn v k)) := ⟨_, rfl⟩
    obtain ⟨fv, hfv⟩ : ∃ U, U = FW n ys v x := ⟨_, rfl⟩
    obtain ⟨yk, hyk⟩ : ∃ U, U = yAt ys x k := ⟨_, rfl⟩
    obtain ⟨vk, hvk⟩ : ∃ U, U = yAt ys v k := ⟨_, rfl⟩
    rw [← hU, ← hD, ← hfv, ← hyk, ← hvk] at i1
    rw [← hU', ← hD'] at hp
    rw [← hda, ← hU, ← hD, ← hU', ← hD', ← hfv, ← hvk]
    rw [← hyk, ← hda] at hy1
    obtain ⟨e, he⟩ : ∃ e : Int, e = if k = m then 1 else if k = m + 1 then -1 else 0 := ⟨_, rfl⟩
    have hy2 : yAt ys x (swN m k) = yk + e * a := by
      rw [hy1, he]
      by_cases e1 : k = m
      · rw [if_pos e1, if_pos e1, Int.one_mul]
      · rw [if_neg e1, if_neg e1]
        by_cases e2 : k = m + 1
        · rw [if_pos e2, if_pos e2]; omega
        · rw [if_neg e2, if_neg e2]; omega
    have hE : sumF (fun u => FW n ys u x) (if k = m then [v] else []) - sumF (fun u => FW n ys u x) (if k = m + 1 then [v] else []) = e * fv := by
      rw [he, hfv]
      by_cases e1 : k = m
      · rw [if_pos e1, if_pos e1, if_neg (by omega)]; simp [sumF]
      · rw [if_neg e1, if_neg e1]
        by_cases e2 : k = m + 1
        · rw [if_pos e2, if_pos e2]; simp [sumF]
        · rw [if_neg e2, if_neg e2]; simp [sumF]
    obtain ⟨E1, hE1⟩ : ∃ U, U = sumF (fun u => FW n ys u x) (if k = m then [v] else []) := ⟨_, rfl⟩
    obtain ⟨E2, hE2⟩ : ∃ U, U = sumF (fun u => FW n ys u x) (if k = m + 1 then [v] else []) := ⟨_, rfl⟩
    rw [← hE1, ← hE2] at hp hE
    cases ha : ascB m v with
    | true =>
      rw [ha] at hp
      simp only [if_true, sumF_nil, Int.zero_add] at hp ⊢
      rw [hy2]
      have h3 : a * (E1 + D') = a * (E2 + U') := by rw [hp]
      have h4 : E1 = E2 + e * fv := by omega
      rw [h4] at h3
      clear hp hE
      grind
    | false =>
      rw [ha] at hp
      have hvs := hv.sw hm
      have i2 := ih x (by omega) hu (sw m v) (swN m k) hvs (swN_lt hk hm)
      rw [yAt_sw (by have := hv.len; omega), swN_swN, ← hvk, hy2] at i2
      simp only [Bool.false_eq_true, if_false] at hp ⊢
      obtain ⟨U2, hU2⟩ : ∃ U, U = sumF (fun u => FW n ys u x) (cvUp (sw m v) (swN m k)) := ⟨_, rfl⟩
      obtain ⟨D2, hD2⟩ : ∃ U, U = sumF (fun u => FW n ys u x) (cvDn (sw m v) (swN m k)) := ⟨_, rfl⟩
      obtain ⟨fs, hfs⟩ : ∃ U, U = FW n ys (sw m v) x := ⟨_, rfl⟩
      rw [← hU2, ← hD2, ← hfs] at i2
      rw [← hU2, ← hD2] at hp
      rw [← hfs, hy2]
      have h3 : a * (E1 + (U2 + D')) = a * (E2 + (D2 + U')) := by rw [hp]
      have h4 : E1 = E2 + e * fv := by omega
      have h5 : a * ((yk + e * a) * fs) = a * (vk * fs + U2 - D2) := by rw [i2]
      rw [h4] at h3
      clear hp hE i2
      grind

end Go.Proofs.YtlbflckoodjokaaGreat

namespace Go.Proofs.YtlbflckoodjokaaGreat
set_option linter.all false
open Go.RowKit

/-! ### all permutations -/
def aLB (n : Nat) : Bool := (permsL n).all (fun v => permOk v && decide (v.length = n)) && decide (permsL n).Nodup && (List.range (n - 1)).all fun k => ((permsL n).map (sw k)).isPerm (permsL n)
set_option maxRecDepth 100000 in
theorem aL_all : ∀ n : Fin 4, aLB (n.val + 1) = true := by decide +kernel
structure AL (n : Nat) : Prop where
  mem : ∀ w, w ∈ permsL n ↔ P5 n w
  nodup : (permsL n).Nodup
  sw : ∀ k, k + 1 < n → ((permsL n).map (sw k)).Perm (permsL n)
theorem aL {n : Nat} (h1 : 1 ≤ n) (h4 : n ≤ 4) : AL n := by
  have := aL_all ⟨n - 1, by omega⟩
  rw [show (⟨n - 1, by omega⟩ : Fin 4).val + 1 = n by simp; omega] at this
  simp only [aLB, Bool.and_eq_true, List.all_eq_true, decide_eq_true_eq, List.mem_range] at this
  obtain ⟨⟨a, b⟩, c⟩ := this
  refine ⟨fun w => ⟨fun hw => ⟨(a w hw).1, (a w hw).2, by omega⟩, fun hw => ?_⟩, b, fun k hk => List.isPerm_iff.1 (c k (by omega))⟩
  have := perm_mem hw.ok (by rw [hw.len]; omega)
  rw [hw.len] at this
  exact this

theorem sumF_delta {v : List Int} (g : List Int → Int) : ∀ {L : List (List Int)}, L.Nodup → v ∈ L → sumF (fun w => if w = v then g w else 0) L = g v
  | [], _, h => by cases h
  | x :: L, hn, h => by
    rw [sumF_cons]
    have hn' := List.nodup_cons.1 hn
    by_cases e : x = v
    · rw [if_pos e, sumF_zero fun y hy => if_neg fun e2 => hn'.1 (by rw [e, ← e2]; exact hy), e, Int.add_zero]
    · rw [if_neg e, sumF_delta g hn'.2 (by
        rcases List.mem_cons.1 h with h | h
        · exact absurd h.symm e
        · exact h), Int.zero_add]
theorem sumF_count (F : List Int → Int) {L : List (List Int)} (hn : L.Nodup) : ∀ {M : List (List Int)}, (∀ x ∈ M, x ∈ L) → sumF F M = sumF (fun u => ((M.count u : Nat) : Int) * F u) L
  | [], _ => by rw [sumF_nil]; exact (sumF_zero fun x _ => by simp).symm
  | x :: M, h => by
    rw [sumF_cons, sumF_count F hn fun y hy => h y (List.mem_cons_of_mem _ hy), ← sumF_delta F hn (h x List.mem_cons_self), ← sumF_add]
    refine sumF_congr fun u _ => ?_
    rw [List.count_cons]
    by_cases e : u = x
    · rw [if_pos e, e]; simp [Int.add_mul]; omega
    · rw [if_neg e]
      have : ¬ (x == u) = true := by simp; exact fun h => e h.symm
      rw [if_neg this]; simp

/-! ### sums -/
def Ex (n : Nat) (ys : List Int) (f c : List Int → Int) : Prop := ∀ p, P5 n p → f p = sumF (fun w => c w * FW n ys w p) (permsL n)
variable {n : Nat} {ys : List Int}
theorem Ex.zero : Ex n ys (fun _ => 0) (fun _ => 0) := fun p _ => (sumF_zero fun x _ => by simp).symm
theorem Ex.add {f g c d : List Int → Int} (h : Ex n ys f c) (h' : Ex n ys g d) : Ex n ys (fun p => f p + g p) (fun w => c w + d w) := fun p hp => by
  dsimp only
  rw [h p hp, h' p hp, ← sumF_add]
  exact sumF_congr fun u _ => by rw [Int.add_mul]
theorem Ex.smul {f c : List Int → Int} (a : Int) (h : Ex n ys f c) : Ex n ys (fun p => a * f p) (fun w => a * c w) := fun p hp => by
  dsimp only
  rw [h p hp, ← sumF_mul]
  exact sumF_congr fun u _ => by rw [Int.mul_assoc]
theorem Ex.sub {f g c d : List Int → Int} (h : Ex n ys f c) (h' : Ex n ys g d) : Ex n ys (fun p => f p - g p) (fun w => c w - d w) := fun p hp => by
  dsimp only
  rw [h p hp, h' p hp, ← sumF_sub]
  exact sumF_congr fun u _ => by rw [Int.sub_mul]
theorem Ex.congr {f g c : List Int → Int} (h : Ex n ys f c) (e : ∀ p, P5 n p → g p = f p) : Ex n ys g c := fun p hp => by rw [e p hp]; exact h p hp
theorem Ex.one (h1 : 1 ≤ n) (h4 : n ≤ 4) {v : List Int} (hv : P5 n v) : Ex n ys (FW n ys v) (fun w => if w = v then 1 else 0) := fun p hp => by
  have A := aL h1 h4
  have := sumF_delta (v := v) (fun w => FW n ys w p) A.nodup ((A.mem v).2 hv)
  rw [← this]
  exact sumF_congr fun u _ => by by_cases e : u = v <;> simp [e]

/-- the numbers behind a product with the number at a place -/
def muC (n : Nat) (ys : List Int) (k : Nat) (c : List Int → Int) (u : List Int) : Int :=
  yAt ys u k * c u + sumF (fun w => c w * (((cvUp w k).count u : Nat) : Int)) (permsL n) - sumF (fun w => c w * (((cvDn w k).count u : Nat) : Int)) (permsL n)
theorem Ex.mu (hy : ys.length = n) (h1 : 1 ≤ n) (h4 : n ≤ 4) {f c : List Int → Int} (h : Ex n ys f c) {k : Nat} (hk : k < n) : Ex n ys (fun p => yAt ys p k * f p) (muC n ys k c) := fun p hp => by
  have A := aL h1 h4
  show yAt ys p k * f p = _
  rw [h p hp, ← sumF_mul]
  have e1 : ∀ w ∈ permsL n, yAt ys p k * (c w * FW n ys w p) =
      yAt ys w k * c w * FW n ys w p + (sumF (fun u => c w * (((cvUp w k).count u : Nat) : Int) * FW n ys u p) (permsL n) - sumF (fun u => c w * (((cvDn w k).count u : Nat) : Int) * FW n ys u p) (permsL n)) := fun w hw => by
    have hw' := (A.mem w).1 hw
    have hc := chv_at hw' hk
    have h0 := chev hy h1 _ p rfl hp w k hw' hk
    have u1 : sumF (fun u => c w * (((cvUp w k).count u : Nat) : Int) * FW n ys u p) (permsL n) = c w * sumF (fun u => FW n ys u p) (cvUp w k) := by
      rw [sumF_count _ A.nodup fun x hx => (A.mem x).2 (hc.2.1 x hx).1, ← sumF_mul]
      exact sumF_congr fun u _ => by rw [Int.mul_assoc]
    have u2 : sumF (fun u => c w * (((cvDn w k).count u : Nat) : Int) * FW n ys u p) (permsL n) = c w * sumF (fun u => FW n ys u p) (cvDn w k) := by
      rw [sumF_count _ A.nodup fun x hx => (A.mem x).2 (hc.2.2 x hx).1, ← sumF_mul]
      exact sumF_congr fun u _ => by rw [Int.mul_assoc]
    rw [u1, u2, Int.mul_left_comm, h0]
    grind
  rw [sumF_congr e1, sumF_add, sumF_sub]
  rw [sumF_swap (fun w u => c w * (((cvUp w k).count u : Nat) : Int) * FW n ys u p), sumF_swap (fun w u => c w * (((cvDn w k).count u : Nat) : Int) * FW n ys u p), ← sumF_sub, ← sumF_add]
  refine sumF_congr fun u _ => ?_
  have e2 : ∀ g : List Int → Int, sumF (fun w => g w * FW n ys u p) (permsL n) = sumF g (permsL n) * FW n ys u p := fun g => by
    rw [Int.mul_comm, ← sumF_mul]
    exact sumF_congr fun w _ => Int.mul_comm _ _
  rw [e2 fun w => c w * (((cvUp w k).count u : Nat) : Int), e2 fun w => c w * (((cvDn w k).count u : Nat) : Int)]
  unfold muC
  grind
theorem pick_y {p : List Int} (hp : P5 n p) (i : Nat) : (pickL p ys).getD i 0 = if i < n then yAt ys p i else 0 := by
  by_cases h7 : i < 7
  · rw [pickL_getD _ _ h7]
    unfold pick
    rw [hp.len]
    rfl
  · have := hp.le
    rw [if_neg (by omega), List.getD_eq_getElem?_getD, List.getElem?_eq_none (by rw [pickL_length]; omega)]; rfl
theorem Ex.pick (hy : ys.length = n) (h1 : 1 ≤ n) (h4 : n ≤ 4) {f c : List Int → Int} (h : Ex n ys f c) (i : Nat) : ∃ c', Ex n ys (fun p => (pickL p ys).getD i 0 * f p) c' := by
  by_cases hi : i < n
  · exact ⟨_, (h.mu hy h1 h4 hi).congr fun p hp => by rw [pick_y hp, if_pos hi]⟩
  · exact ⟨_, Ex.zero.congr fun p hp => by rw [pick_y hp, if_neg hi, Int.zero_mul]⟩
theorem Ex.pow (hy : ys.length = n) (h1 : 1 ≤ n) (h4 : n ≤ 4) (i : Nat) : ∀ (t : Nat) {f c : List Int → Int}, Ex n ys f c → ∃ c', Ex n ys (fun p => (pickL p ys).getD i 0 ^ t * f p) c'
  | 0, f, c, h => ⟨c, h.congr fun p _ => by rw [Int.pow_zero, Int.one_mul]⟩
  | t + 1, f, c, h => by
    obtain ⟨c1, h1'⟩ := h.pick hy h1 h4 i
    obtain ⟨c2, h2⟩ := Ex.pow hy h1 h4 i t h1'
    exact ⟨c2, h2.congr fun p _ => by rw [Int.pow_succ, Int.mul_assoc]⟩
theorem Ex.mono (hy : ys.length = n) (h1 : 1 ≤ n) (h4 : n ≤ 4) (e : List Int) {f c : List Int → Int} (h : Ex n ys f c) : ∃ c', Ex n ys (fun p => Go.Proofs.YtlbflckoodjokaaGreat.mono (pickL p ys) e * f p) c' := by
  unfold Go.Proofs.YtlbflckoodjokaaGreat.mono
  have : ∀ (m : Nat) {f c : List Int → Int}, Ex n ys f c → ∃ c', Ex n ys (fun p => monoK (pickL p ys) e m * f p) c' := fun m => by
    induction m with
    | zero => exact fun h => ⟨_, h.congr fun p _ => by rw [monoK, Int.one_mul]⟩
    | succ m ih =>
      intro f c h
      obtain ⟨c1, h1'⟩ := Ex.pow hy h1 h4 m (e.getD m 0).toNat h
      obtain ⟨c2, h2⟩ := ih h1'
      exact ⟨c2, h2.congr fun p _ => by rw [monoK, Int.mul_assoc]⟩
  exact this 7 h
theorem Ex.ev (hy : ys.length = n) (h1 : 1 ≤ n) (h4 : n ≤ 4) {f c : List Int → Int} (h : Ex n ys f c) : ∀ P : Pl, ∃ c', Ex n ys (fun p => Ev P (Go.Proofs.YtlbflckoodjokaaGreat.mono (pickL p ys)) * f p) c'
  | [] => ⟨_, Ex.zero.congr fun p _ => by simp [Ev]⟩
  | q :: P => by
    obtain ⟨c1, h1'⟩ := Ex.ev hy h1 h4 h P
    obtain ⟨c2, h2⟩ := Ex.mono hy h1 h4 q.1 h
    exact ⟨_, ((h2.smul q.2).add h1').congr fun p _ => by simp only [Ev]; rw [Int.add_mul, Int.mul_assoc]⟩
/-- a product of values is a sum of values -/
theorem Ex.prod (hy : ys.length = n) (h1 : 1 ≤ n) (h4 : n ≤ 4) (u : List Int) {v : List Int} (hv : P5 n v) : ∃ c, Ex n ys (fun p => FW n ys u p * FW n ys v p) c :=
  (Ex.one h1 h4 hv).ev hy h1 h4 (lowP 10 u (topI n ys n))

/-! ### there is but one -/
def invNB (v : List Int) : Bool := (invs v).all fun p => decide (0 ≤ p.1 ∧ p.1 < (v.length : Int) ∧ 0 ≤ p.2 ∧ p.2 < (v.length : Int) ∧ p.1 ≠ p.2)
set_option maxRecDepth 100000 in
theorem invN_all : all5 invNB = true := by decide +kernel
theorem prod_ne {v : List Int} (hv : P5 n v) (hd : DstY n ys) : prodP ys (invs v) ≠ 0 := by
  have := all5_at invN_all hv.ok (by have := hv.len; have := hv.le; omega)
  simp only [invNB, List.all_eq_true, decide_eq_true_eq, hv.len] at this
  have key : ∀ L : List (Int × Int), (∀ p ∈ L, 0 ≤ p.1 ∧ p.1 < (n : Int) ∧ 0 ≤ p.2 ∧ p.2 < (n : Int) ∧ p.1 ≠ p.2) → prodP ys L ≠ 0 := fun L => by
    induction L with
    | nil => exact fun _ => by simp [prodP]
    | cons p L ih =>
      intro h
      rw [prodP]
      obtain ⟨a1, a2, b1, b2, hne⟩ := h p List.mem_cons_self
      have := hd p.1.toNat p.2.toNat (by omega) (by omega) (by omega)
      exact Int.mul_ne_zero (by omega) (ih fun q hq => h q (List.mem_cons_of_mem _ hq))
  exact key _ this
theorem FW_ne (hy : ys.length = n) {v : List Int} (hv : P5 n v) (hd : DstY n ys) : FW n ys v v ≠ 0 := by rw [FW_self hv hy]; exact prod_ne hv hd
/-- what a sum is at a permutation, when the numbers of the shorter ones are 0 -/
theorem sum_at (hy : ys.length = n) (h1 : 1 ≤ n) (h4 : n ≤ 4) {d : List Int → Int} {w : List Int} (hw : P5 n w) (h : ∀ u, P5 n u → lnN u < lnN w → d u = 0) : sumF (fun u => d u * FW n ys u w) (permsL n) = d w * FW n ys w w := by
  have A := aL h1 h4
  rw [← sumF_delta (v := w) (fun u => d u * FW n ys u w) A.nodup ((A.mem w).2 hw)]
  refine sumF_congr fun u hu => ?_
  have hu' := (A.mem u).1 hu
  by_cases e : u = w
  · rw [if_pos e]
  · rw [if_neg e]
    by_cases hl : lnN u < lnN w
    · rw [h u hu' hl, Int.zero_mul]
    · have a := (wrd_at hu').2.2.2
      have b := (wrd_at hw).2.2.2
      rw [FW_zero hu' hw hy (by omega) (fun h => e h.symm), Int.mul_zero]
theorem Ex.nil (hy : ys.length = n) (h1 : 1 ≤ n) (h4 : n ≤ 4) (hd : DstY n ys) {d : List Int → Int} (h : Ex n ys (fun _ => 0) d) : ∀ (t : Nat) (w : List Int), lnN w = t → P5 n w → d w = 0 := by
  intro t
  induction t using Nat.strongRecOn with
  | _ t ih =>
    intro w ht hw
    have := h w hw
    rw [sum_at hy h1 h4 hw fun u hu hl => ih (lnN u) (by omega) u rfl hu] at this
    exact (Int.mul_eq_zero.1 this.symm).resolve_right (FW_ne hy hw hd)
theorem Ex.uniq (hy : ys.length = n) (h1 : 1 ≤ n) (h4 : n ≤ 4) (hd : DstY n ys) {f c c' : List Int → Int} (h : Ex n ys f c) (h' : Ex n ys f c') {w : List Int} (hw : P5 n w) : c w = c' w := by
  have := Ex.nil hy h1 h4 hd ((h.sub h').congr fun p _ => by omega) _ w rfl hw
  omega

/-! ### one step down -/
def dnC (k : Nat) (c : List Int → Int) (w : List Int) : Int := if ascB k w then c (sw k w) else 0
theorem sumF_map (F : List Int → Int) (g : List Int → List Int) : ∀ L : List (List Int), sumF F (L.map g) = sumF (fun x => F (g x)) L
  | [] => rfl
  | x :: L => by rw [List.map_cons, sumF_cons, sumF_cons, sumF_map F g L]
theorem Ex.down (h1 : 1 ≤ n) (h4 : n ≤ 4) {f c : List Int → Int} (h : Ex n ys f c) {k : Nat} (hk : k + 1 < n) {p : List Int} (hp : P5 n p) : f (sw k p) - f p = df ys p k * sumF (fun w => dnC k c w * FW n ys w p) (permsL n) := by
  have A := aL h1 h4
  rw [h p hp, h _ (hp.sw hk), ← sumF_sub]
  have e : ∀ w ∈ permsL n, c w * FW n ys w (sw k p) - c w * FW n ys w p = (fun x => df ys p k * (dnC k c x * FW n ys x p)) (sw k w) := fun w hw => by
    have hw' := (A.mem w).1 hw
    rw [FW_rec hw' hp hk]
    unfold dnC
    dsimp only
    cases ha : ascB k w with
    | true => rw [(hw'.asc hk ha).2]; simp
    | false => rw [(hw'.desc hk ha).2, sw_sw (by have := hw'.len; omega)]; simp; grind
  rw [sumF_congr e, ← sumF_map (fun x => df ys p k * (dnC k c x * FW n ys x p)), sumF_perm _ (A.sw k hk), sumF_mul]
theorem prod_step (hy : ys.length = n) (h1 : 1 ≤ n) (h4 : n ≤ 4) (hd : DstY n ys) {u v : List Int} (hu : P5 n u) (hv : P5 n v) {c : List Int → Int} (h : Ex n ys (fun p => FW n ys u p * FW n ys v p) c)
    {k : Nat} (hk : k + 1 < n) : ∃ c1 c2 c3, Ex n ys (fun p => FW n ys (sw k u) p * FW n ys v p) c1 ∧ Ex n ys (fun p => FW n ys u p * FW n ys (sw k v) p) c2 ∧ Ex n ys (fun p => FW n ys (sw k u) p * FW n ys (sw k v) p) c3 ∧
      ∀ w, P5 n w → ascB k w = true → c (sw k w) = (if ascB k u then 0 else c1 w) + (if ascB k v then 0 else c2 w) + (if ascB k u then 0 else if ascB k v then 0 else muC n ys (k + 1) c3 w - muC n ys k c3 w) := by
  obtain ⟨c1, e1⟩ := Ex.prod hy h1 h4 (sw k u) hv
  obtain ⟨c2, e2⟩ := Ex.prod hy h1 h4 u (hv.sw hk)
  obtain ⟨c3, e3⟩ := Ex.prod hy h1 h4 (sw k u) (hv.sw hk)
  refine ⟨c1, c2, c3, e1, e2, e3, fun w hw ha => ?_⟩
  have q1 : Ex n ys (fun p => if ascB k u then 0 else FW n ys (sw k u) p * FW n ys v p) (fun w => if ascB k u then 0 else c1 w) := by
    cases ascB k u
    · exact e1
    · exact Ex.zero
  have q2 : Ex n ys (fun p => if ascB k v then 0 else FW n ys u p * FW n ys (sw k v) p) (fun w => if ascB k v then 0 else c2 w) := by
    cases ascB k v
    · exact e2
    · exact Ex.zero
  have q3 : Ex n ys (fun p => if ascB k u then 0 else if ascB k v then 0 else yAt ys p (k + 1) * (FW n ys (sw k u) p * FW n ys (sw k v) p) - yAt ys p k * (FW n ys (sw k u) p * FW n ys (sw k v) p))
      (fun w => if ascB k u then 0 else if ascB k v then 0 else muC n ys (k + 1) c3 w - muC n ys k c3 w) := by
    cases ascB k u
    · cases ascB k v
      · exact (e3.mu hy h1 h4 hk).sub (e3.mu hy h1 h4 (by omega))
      · exact Ex.zero
    · exact Ex.zero
  have q := (q1.add q2).add q3
  have r : Ex n ys (fun p => sumF (fun w => dnC k c w * FW n ys w p) (permsL n)) (dnC k c) := fun p _ => rfl
  have r' := r.congr (g := fun p => (if ascB k u then 0 else FW n ys (sw k u) p * FW n ys v p) + (if ascB k v then 0 else FW n ys u p * FW n ys (sw k v) p) + (if ascB k u then 0 else if ascB k v then 0 else yAt ys p (k + 1) * (FW n ys (sw k u) p * FW n ys (sw k v) p) - yAt ys p k * (FW n ys (sw k u) p * FW n ys (sw k v) p))) fun p hp => by
    have hdn := h.down h1 h4 hk hp
    rw [FW_rec hu hp hk, FW_rec hv hp hk] at hdn
    have hne := df_ne hd hp hk
    obtain ⟨S, hS⟩ : ∃ S, S = sumF (fun w => dnC k c w * FW n ys w p) (permsL n) := ⟨_, rfl⟩
    rw [← hS] at hdn ⊢
    obtain ⟨a, ha'⟩ : ∃ a, a = df ys p k := ⟨_, rfl⟩
    have hy1 : yAt ys p (k + 1) = yAt ys p k + a := by rw [ha', df_y]; omega
    rw [hy1]
    rw [← ha'] at hdn hne
    obtain ⟨Fu, hFu⟩ : ∃ a, a = FW n ys u p := ⟨_, rfl⟩
    obtain ⟨Fv, hFv⟩ : ∃ a, a = FW n ys v p := ⟨_, rfl⟩
    obtain ⟨Gu, hGu⟩ : ∃ a, a = FW n ys (sw k u) p := ⟨_, rfl⟩
    obtain ⟨Gv, hGv⟩ : ∃ a, a = FW n ys (sw k v) p := ⟨_, rfl⟩
    obtain ⟨y0, hy0⟩ : ∃ a, a = yAt ys p k := ⟨_, rfl⟩
    rw [← hFu, ← hFv, ← hGu, ← hGv] at hdn ⊢
    rw [← hy0]
    have key : a * (((if ascB k u then 0 else Gu * Fv) + (if ascB k v then 0 else Fu * Gv) + (if ascB k u then 0 else if ascB k v then 0 else (y0 + a) * (Gu * Gv) - y0 * (Gu * Gv))) - S) = 0 := by
      rw [Int.mul_sub, ← hdn]
      cases ascB k u <;> cases ascB k v <;> simp <;> grind
    have := cancel hne key
    omega
  have := r'.uniq hy h1 h4 hd q hw
  unfold dnC at this
  rw [if_pos ha] at this
  exact this

/-! ### how great the numbers are -/
def muT (k : Nat) (w x : List Int) : Int := (((cvUp x (k + 1)).count w : Nat) : Int) - (((cvDn x (k + 1)).count w : Nat) : Int) - ((((cvUp x k).count w : Nat) : Int) - (((cvDn x k).count w : Nat) : Int))
def muTB (n : Nat) : Bool := (permsL n).all fun w => (List.range (n - 1)).all fun k => decide ((((permsL n).map fun x => (muT k w x).natAbs).sum) ≤ 8) && (permsL n).all fun x => decide (muT k w x = 0) || decide (lnN x < lnN w)
set_option maxRecDepth 100000 in
theorem muT_all : ∀ n : Fin 4, muTB (n.val + 1) = true := by decide +kernel
theorem muT_at (h1 : 1 ≤ n) (h4 : n ≤ 4) {w : List Int} (hw : P5 n w) {k : Nat} (hk : k + 1 < n) :
    (((permsL n).map fun x => (muT k w x).natAbs).sum ≤ 8) ∧ ∀ x, P5 n x → muT k w x = 0 ∨ lnN x < lnN w := by
  have := muT_all ⟨n - 1, by omega⟩
  rw [show (⟨n - 1, by omega⟩ : Fin 4).val + 1 = n by simp; omega] at this
  simp only [muTB, List.all_eq_true, Bool.and_eq_true, List.mem_range, decide_eq_true_eq, Bool.or_eq_true] at this
  obtain ⟨a, b⟩ := this w (((aL h1 h4).mem w).2 hw) k (by omega)
  exact ⟨a, fun x hx => b x (((aL h1 h4).mem x).2 hx)⟩
theorem mu_diff {k : Nat} (c : List Int → Int) (w : List Int) : muC n ys (k + 1) c w - muC n ys k c w = df ys w k * c w + sumF (fun x => c x * muT k w x) (permsL n) := by
  unfold muC
  rw [df_y]
  have e : sumF (fun x => c x * muT k w x) (permsL n) = sumF (fun x => c x * (((cvUp x (k + 1)).count w : Nat) : Int)) (permsL n) - sumF (fun x => c x * (((cvDn x (k + 1)).count w : Nat) : Int)) (permsL n) -
      (sumF (fun x => c x * (((cvUp x k).count w : Nat) : Int)) (permsL n) - sumF (fun x => c x * (((cvDn x k).count w : Nat) : Int)) (permsL n)) := by
    rw [← sumF_sub, ← sumF_sub, ← sumF_sub]
    refine sumF_congr fun x _ => ?_
    unfold muT
    grind
  rw [e]
  grind
theorem sumF_abs {c t : List Int → Int} {B : Nat} : ∀ {L : List (List Int)}, (∀ x ∈ L, t x = 0 ∨ (c x).natAbs ≤ B) → (sumF (fun x => c x * t x) L).natAbs ≤ B * (L.map fun x => (t x).natAbs).sum
  | [], _ => by simp [sumF]
  | x :: L, h => by
    rw [sumF_cons, List.map_cons, List.sum_cons, Nat.mul_add]
    have ih := sumF_abs (L := L) fun y hy => h y (List.mem_cons_of_mem _ hy)
    have : (c x * t x).natAbs ≤ B * (t x).natAbs := by
      rw [Int.natAbs_mul]
      rcases h x List.mem_cons_self with h | h
      · rw [h]; simp
      · exact Nat.mul_le_mul_right _ h
    omega
theorem df_abs {w : List Int} (hy9 : ∀ x ∈ ys, -9 ≤ x ∧ x ≤ 9) (k : Nat) : (df ys w k).natAbs ≤ 18 := by
  have yr : ∀ i : Nat, -9 ≤ ys.getD i 0 ∧ ys.getD i 0 ≤ 9 := fun i => by
    by_cases hi : i < ys.length
    · exact hy9 _ (getD_mem hi)
    · rw [List.getD_eq_getElem?_getD, List.getElem?_eq_none (by omega)]; simp
  unfold df
  have a := yr (w.getD (k + 1) 0).toNat
  have b := yr (w.getD k 0).toNat
  omega
theorem prod_bound (hy : ys.length = n) (h1 : 1 ≤ n) (h4 : n ≤ 4) (hd : DstY n ys) (hy9 : ∀ x ∈ ys, -9 ≤ x ∧ x ≤ 9) : ∀ (t : Nat) (w u v : List Int) (c : List Int → Int), lnN w = t → P5 n w → P5 n u → P5 n v →
    Ex n ys (fun p => FW n ys u p * FW n ys v p) c → (c w).natAbs ≤ 28 ^ t := by
  intro t
  induction t using Nat.strongRecOn with
  | _ t ih =>
    intro w u v c ht hw hu hv h
    by_cases h0 : lnN w = 0
    · have hi := id_of_len hw h0
      have : FW n ys u w * FW n ys v w = _ := h w hw
      rw [sum_at hy h1 h4 hw fun x _ hl => by omega, hi, FW_id hy h1 hu, FW_id hy h1 hv, FW_id hy h1 (by rw [← hi]; exact hw), if_pos rfl, ← hi] at this
      have e : c w = (if w = u then 1 else 0) * (if w = v then 1 else 0) := by omega
      have : 1 ≤ 28 ^ t := Nat.one_le_pow _ _ (by omega)
      rw [e]
      by_cases a : w = u <;> by_cases b : w = v <;> simp [a, b] <;> omega
    · obtain ⟨k, hk, hdn⟩ : ∃ k, k + 1 < n ∧ ascB k w = false := ((blid_at hw).2).resolve_left h0
      have hl := len_desc hw hk hdn
      have hx := hw.sw hk
      have hax := (hw.desc hk hdn).2
      obtain ⟨c1, c2, c3, e1, e2, e3, hst⟩ := prod_step hy h1 h4 hd hu hv h hk
      have := hst _ hx hax
      rw [sw_sw (by have := hw.len; omega), mu_diff] at this
      have b1 := ih _ (by omega) _ _ _ _ rfl hx (hu.sw hk) hv e1
      have b2 := ih _ (by omega) _ _ _ _ rfl hx hu (hv.sw hk) e2
      have b3 := ih _ (by omega) _ _ _ _ rfl hx (hu.sw hk) (hv.sw hk) e3
      have m := muT_at h1 h4 hx hk
      have b4 := sumF_abs (c := c3) (t := muT k (sw k w)) (B := 28 ^ lnN (sw k w)) (L := permsL n) fun x hx' => by
        have hx5 := ((aL h1 h4).mem x).1 hx'
        rcases m.2 x hx5 with h | h
        · exact .inl h
        · exact .inr (Nat.le_trans (ih _ (by omega) _ _ _ _ rfl hx5 (hu.sw hk) (hv.sw hk) e3) (Nat.pow_le_pow_right (by omega) (by omega)))
      have b5 : 28 ^ lnN (sw k w) * ((permsL n).map fun x => (muT k (sw k w) x).natAbs).sum ≤ 28 ^ lnN (sw k w) * 8 := Nat.mul_le_mul_left _ m.1
      have d1 := df_abs (w := sw k w) hy9 k
      have b6 : (df ys (sw k w) k * c3 (sw k w)).natAbs ≤ 18 * 28 ^ lnN (sw k w) := by rw [Int.natAbs_mul]; exact Nat.mul_le_mul d1 b3
      have hp : 28 ^ t = 28 * 28 ^ lnN (sw k w) := by rw [← ht, ← hl, Nat.pow_succ, Nat.mul_comm]
      rw [hp]
      obtain ⟨X, hX⟩ : ∃ X, X = 28 ^ lnN (sw k w) := ⟨_, rfl⟩
      rw [← hX] at b1 b2 b4 b5 b6 ⊢
      obtain ⟨S, hS⟩ : ∃ S, S = sumF (fun x => c3 x * muT k (sw k w) x) (permsL n) := ⟨_, rfl⟩
      obtain ⟨D, hD⟩ : ∃ D, D = df ys (sw k w) k * c3 (sw k w) := ⟨_, rfl⟩
      rw [← hS] at b4 this
      rw [← hD] at b6 this
      cases ha : ascB k u <;> cases hb : ascB k v <;> simp only [ha, hb, if_true, if_false, Bool.false_eq_true] at this <;> omega

end Go.Proofs.YtlbflckoodjokaaGreat

namespace Go.Proofs.YtlbflckoodjokaaGreat
set_option linter.all false
open Go.RowKit

abbrev Cls := List Int × Int
def clD : Cls := ([], 0)
/-- the fields of classes, the permutations' slices being f -/
def clF (cs : List Cls) (f : Nat → Value) (i j : Nat) : Value :=
  match j with
  | 0 => f i
  | _ => .int .i64 (cs.getD i clD).2
/-- classes that can be read, at the head of a block -/
def RdCl (w : World) (v : Value) (cs : List Cls) : Prop := ∃ f, RdS w 2 v cs.length (clF cs f) ∧ ∀ i, i < cs.length → Ints w (f i) (cs.getD i clD).1
theorem RdCl.below {w w' : World} {v : Value} {cs : List Cls} (h : RdCl w v cs) (hb : Below w.heap.size w w') : RdCl w' v cs := by
  obtain ⟨f, h1, h2⟩ := h
  exact ⟨f, h1.below hb, fun i hi => (h2 i hi).below hb⟩
theorem RdS.two {w : World} {v : Value} {cs : List Cls} {f : Nat → Value} (h : RdS w 2 v cs.length (clF cs f)) : ∃ p cap, v = .slice p cs.length cap ∧ (cs.length ≤ cap ∧ cap ≤ maxLen) ∧
    (0 < cs.length → ∃ b, p = some ⟨b, 0, none⟩ ∧ ∀ i, i < cs.length → w.cell? ⟨b, i * 2, none⟩ = some (f i) ∧ w.cell? ⟨b, i * 2 + 1, none⟩ = some (.int .i64 (cs.getD i clD).2)) := by
  obtain ⟨p, cap, rfl, hm, h⟩ := h
  refine ⟨p, cap, rfl, hm, fun h0 => ?_⟩
  obtain ⟨b, hp, hx⟩ := h h0
  exact ⟨b, hp, fun i hi => ⟨hx i hi 0 (by omega), hx i hi 1 (by omega)⟩⟩
/-- classes that a call made -/
def OwnCl (w : World) (lo hi : Nat) (v : Value) (cs : List Cls) : Prop :=
  ∃ g, OwnS w lo hi 40 2 v cs.length (clF cs g) ∧ ∀ i, i < cs.length → OwnI 3 w lo hi (g i) (cs.getD i clD).1
theorem OwnCl.rd {w : World} {lo hi : Nat} {v : Value} {cs : List Cls} (h : OwnCl w lo hi v cs) : RdCl w v cs := by
  obtain ⟨g, h1, h2⟩ := h
  exact ⟨g, h1.rd, fun i hi => (h2 i hi).ints⟩
theorem OwnCl.below {w w' : World} {lo hi : Nat} {v : Value} {cs : List Cls} (h : OwnCl w lo hi v cs) (hb : Below w.heap.size w w') : OwnCl w' lo hi v cs := by
  obtain ⟨g, h1, h2⟩ := h
  exact ⟨g, h1.below hb, fun i hi => (h2 i hi).below hb⟩
theorem OwnCl.mono {w : World} {lo hi lo' hi' : Nat} {v : Value} {cs : List Cls} (h : OwnCl w lo hi v cs) (a : lo' ≤ lo) (b : hi ≤ hi') : OwnCl w lo' hi' v cs := by
  obtain ⟨g, h1, h2⟩ := h
  exact ⟨g, h1.mono a b, fun i hi => (h2 i hi).mono a b⟩
theorem OwnCl.setCell {w : World} {lo hi : Nat} {v : Value} {cs : List Cls} (h : OwnCl w lo hi v cs) {a : Addr} (ho : a.block < lo ∨ hi ≤ a.block) (u : Value) : OwnCl (w.setCell a u) lo hi v cs := by
  obtain ⟨g, h1, h2⟩ := h
  exact ⟨g, h1.setCell ho u, fun i hi => (h2 i hi).setCell ho u⟩
theorem OwnCl.shape {w : World} {lo hi : Nat} {v : Value} {cs : List Cls} (h : OwnCl w lo hi v cs) : ∃ p cap, v = .slice p cs.length cap ∧ cs.length ≤ cap ∧ cap ≤ maxLen := by
  obtain ⟨g, h1, _⟩ := h
  obtain ⟨p, cap, e, h2, h3, _⟩ := h1.shape
  exact ⟨p, cap, e, h2, h3⟩
/-- classes that came in, wherever they lie -/
def RdClA (w : World) (v : Value) (cs : List Cls) : Prop :=
  ∃ (p : Option Addr) (cap : Nat) (f : Nat → Value), v = .slice p cs.length cap ∧ (cs.length ≤ cap ∧ cap ≤ maxLen) ∧
    (0 < cs.length → ∃ b off, p = some ⟨b, off, none⟩ ∧ ∀ i, i < cs.length → w.cell? ⟨b, off + i * 2, none⟩ = some (f i) ∧ w.cell? ⟨b, off + i * 2 + 1, none⟩ = some (.int .i64 (cs.getD i clD).2)) ∧
    ∀ i, i < cs.length → Ints w (f i) (cs.getD i clD).1
theorem RdClA.below {w w' : World} {v : Value} {cs : List Cls} (h : RdClA w v cs) (hb : Below w.heap.size w w') : RdClA w' v cs := by
  obtain ⟨p, cap, f, e, h1, h2, h3⟩ := h
  refine ⟨p, cap, f, e, h1, fun h0 => ?_, fun i hi => (h3 i hi).below hb⟩
  obtain ⟨b, off, hp, hx⟩ := h2 h0
  exact ⟨b, off, hp, fun i hi => ⟨cell_below hb (hx i hi).1, cell_below hb (hx i hi).2⟩⟩

/-- none of the lists is too long -/
def ClsFit (cs : List Cls) : Prop := cs.length ≤ 1048576 ∧ ∀ i, i < cs.length → (cs.getD i clD).1.length ≤ 1048576

theorem szI_cases (left : Int) (n : Nat) (h0 : 0 ≤ left) : szI left n = -1 ∨ (0 ≤ szI left n ∧ szI left n ≤ left ∧ (n : Int) ≤ left) := by
  unfold szI; split <;> omega

theorem blk2 {w : World} {b : Nat} {x0 x1 : Value} {T : TypeId} (h : w.heap[b]? = some (.cells #[x0, x1] T (0, 0))) :
    w.cell? ⟨b, 0, none⟩ = some x0 ∧ w.cell? ⟨b, 1, none⟩ = some x1 ∧ (∀ j, w.frozen? ⟨b, j, none⟩ = false) ∧ b < w.heap.size :=
  ⟨cell_of_blk h rfl, cell_of_blk h rfl, free_of_blk h, blk_lt h⟩
theorem set2_all {w : World} {b : Nat} {x0 x1 : Value} {T : TypeId} (h : w.heap[b]? = some (.cells #[x0, x1] T (0, 0))) (y0 y1 : Value) :
    ((w.setCell ⟨b, 0, none⟩ y0).setCell ⟨b, 1, none⟩ y1).heap[b]? = some (.cells #[y0, y1] T (0, 0)) := by
  have e := heap_setCell_at (heap_setCell_at h 0 y0) 1 y1
  simpa using e

theorem info_cls : (Tryz.prog.info? 40).map (fun i => (i.zero, i.size, i.bytes)) = some (some (.agg #[.slice none 0 0, .int .i64 0]), 2, 32) := by kernel_rfl
/-- make of structs -/
theorem run_make_S {P : Program} (t e : TypeId) (z : Value) (size bytes : Nat) (ht : P.underlying t = some (.slice e)) (hinfo : (P.info? e).map (fun i => (i.zero, i.size, i.bytes)) = some (some z, size, bytes)) (n : Nat) (hn : n ≤ 1048576) (hb : bytes ≤ 1000) (w : World) :
    (Instr.makeSlice t (.int .i64 (n : Int)) (.int .i64 (n : Int))).run P w = .ok (.slice (some ⟨w.heap.size, 0, none⟩) n n) (w.alloc (.cells (madeCells z.cells (n * size)) e)) := by
  obtain ⟨i, hi, hz, hsz, hby⟩ := info_partsS hinfo
  have hm : (i.bytes : Int) * (n : Int) ≤ 1000 * 1048576 := by
    have := Nat.mul_le_mul (show i.bytes ≤ 1000 by omega) hn
    have h2 : ((i.bytes * n : Nat) : Int) ≤ 1000 * 1048576 := by omega
    rwa [Int.natCast_mul] at h2
  have := run_make (P := P) w t e i z ht hi hz .i64 .i64 (n : Int) (n : Int) (by omega) (Int.le_refl _) (by omega) (by omega)
  rw [hsz] at this
  simpa using this
theorem made_S (w : World) (T : TypeId) (z0 z1 : Value) (n : Nat) (hn : n ≤ 1048576) : OwnS (w.alloc (.cells (madeCells #[z0, z1] (n * 2)) T)) w.heap.size (w.heap.size + 1) T 2 (.slice (some ⟨w.heap.size, 0, none⟩) n n) n (fun _ j => if j = 0 then z0 else z1) := by
  refine ⟨(madeCells #[z0, z1] (n * 2)).toList, ⟨⟨by simp [madeCells], .inr ⟨w.heap.size, n, _, rfl, Nat.le_refl _, heap_alloc_top _ _, Nat.le_refl _, by unfold maxLen; omega, by simp [madeCells], ?_⟩⟩, fun k hk => by simp [Value.ownBlock] at hk; omega⟩, fun i hi j hj => ?_⟩
  · rw [List.take_of_length_le (by simp [madeCells])]
  · have hlt : i * 2 + j < n * 2 := by omega
    have hm : (i * 2 + j) % 2 = j := by omega
    have hg : ∀ t, t < n * 2 → (madeCells #[z0, z1] (n * 2)).toList[t]? = some ((#[z0, z1] : Array Value)[t % 2]!) := fun t h => by simp [madeCells, h]
    rw [hg _ hlt, hm]
    have : j = 0 ∨ j = 1 := by omega
    rcases this with rfl | rfl <;> rfl

theorem keep4w {wr W W' : World} {a0 a1 a2 a3 : Addr} {v0 v1 v2 v3 : Value} (hb : Below W.heap.size W W') (h : (W.cell? a0 = some v0 ∧ W.cell? a1 = some v1 ∧ W.cell? a2 = some v2 ∧ W.cell? a3 = some v3) ∧ Below wr.heap.size wr W) :
    (W'.cell? a0 = some v0 ∧ W'.cell? a1 = some v1 ∧ W'.cell? a2 = some v2 ∧ W'.cell? a3 = some v3) ∧ Below wr.heap.size wr W' :=
  ⟨⟨cell_below hb h.1.1, cell_below hb h.1.2.1, cell_below hb h.1.2.2.1, cell_below hb h.1.2.2.2⟩, below_trans h.2 hb⟩

end Go.Proofs.YtlbflckoodjokaaGreat
