/-
  Values as sums of values of permutations: products have such sums, there is but one, and its numbers are not great. Plain.
  The shapes in a box and their permutations, for boxes of up to four: by looking at all. Plain.
  How great values are at four different numbers or fewer, and that they differ by multiples. Plain.
  The reference's length of a permutation; words as numbers.
  l1Same, slices.Equal, l7Same.
  The reference's words and its sums over subwords: the walks.
  The reference's sums over subwords: l8Sum, l8Local, Localize.
  Localize on both sides.
  NewSession: what both make, and the law's helpers on sessions whose classes and shape are empty.
  The program's allPerms and AllPerms.
-/
import Derived.Test.YtgebjjpcgakjgaaGreatJ18
import Derived.Test.YtgebjjpcgakjgaaGreatJ17
import Derived.Test.YtgebjjpcgakjgaaGreatJ4
import Derived.Test.YtgebjjpcgakjgaaGreatJ5
import Derived.Test.YtgebjjpcgakjgaaGreatJ2
import Derived.Test.YtgebjjpcgakjgaaGreatJ8
import Derived.Test.YtgebjjpcgakjgaaGreatJ3
import Derived.Deep.RegionHeld3
import Derived.Test.YtgebjjpcgakjgaaGreatJ10
namespace Go.Proofs.YtgebjjpcgakjgaaGreat
set_option linter.all false
open Go.RowKit

/-! ### all permutations -/
def aLB (n : Nat) : Bool := (permsL n).all (fun v => permOk v && decide (v.length = n)) && decide (permsL n).Nodup && (List.range (n - 1)).all fun k => ((permsL n).map (sw k)).isPerm (permsL n)
set_option maxRecDepth 100000 in
theorem aL_all : ∀ n : Fin 4, aLB (n.val + 1) = true := by decide +kernel
structure AL (n : Nat) : Prop where
  mem : ∀ w, w ∈ permsL n ↔ P5 n w
  nodup : (permsL n).Nodup
  sw : ∀ k, k + 1 < n → ((permsL n).map (sw k)).Perm (permsL n)
theorem aL {n : Nat} (h1 : 1 ≤ n) (h4 : n ≤ 4) : AL n := by
  have := aL_all ⟨n - 1, by omega⟩
  rw [show (⟨n - 1, by omega⟩ : Fin 4).val + 1 = n by simp; omega] at this
  simp only [aLB, Bool.and_eq_true, List.all_eq_true, decide_eq_true_eq, List.mem_range] at this
  obtain ⟨⟨a, b⟩, c⟩ := this
  refine ⟨fun w => ⟨fun hw => ⟨(a w hw).1, (a w hw).2, by omega⟩, fun hw => ?_⟩, b, fun k hk => List.isPerm_iff.1 (c k (by omega))⟩
  have := perm_mem hw.ok (by rw [hw.len]; omega)
  rw [hw.len] at this
  exact this

theorem sumF_delta {v : List Int} (g : List Int → Int) : ∀ {L : List (List Int)}, L.Nodup → v ∈ L → sumF (fun w => if w = v then g w else 0) L = g v
  | [], _, h => by cases h
  | x :: L, hn, h => by
    rw [sumF_cons]
    have hn' := List.nodup_cons.1 hn
    by_cases e : x = v
    · rw [if_pos e, sumF_zero fun y hy => if_neg fun e2 => hn'.1 (by rw [e, ← e2]; exact hy), e, Int.add_zero]
    · rw [if_neg e, sumF_delta g hn'.2 (by
        rcases List.mem_cons.1 h with h | h
        · exact absurd h.symm e
        · exact h), Int.zero_add]
theorem sumF_count (F : List Int → Int) {L : List (List Int)} (hn : L.Nodup) : ∀ {M : List (List Int)}, (∀ x ∈ M, x ∈ L) → sumF F M = sumF (fun u => ((M.count u : Nat) : Int) * F u) L
  | [], _ => by rw [sumF_nil]; exact (sumF_zero fun x _ => by simp).symm
  | x :: M, h => by
    rw [sumF_cons, sumF_count F hn fun y hy => h y (List.mem_cons_of_mem _ hy), ← sumF_delta F hn (h x List.mem_cons_self), ← sumF_add]
    refine sumF_congr fun u _ => ?_
    rw [List.count_cons]
    by_cases e : u = x
    · rw [if_pos e, e]; simp [Int.add_mul]; omega
    · rw [if_neg e]
      have : ¬ (x == u) = true := by simp; exact fun h => e h.symm
      rw [if_neg this]; simp

/-! ### sums -/
def Ex (n : Nat) (ys : List Int) (f c : List Int → Int) : Prop := ∀ p, P5 n p → f p = sumF (fun w => c w * FW n ys w p) (permsL n)
variable {n : Nat} {ys : List Int}
theorem Ex.zero : Ex n ys (fun _ => 0) (fun _ => 0) := fun p _ => (sumF_zero fun x _ => by simp).symm
theorem Ex.add {f g c d : List Int → Int} (h : Ex n ys f c) (h' : Ex n ys g d) : Ex n ys (fun p => f p + g p) (fun w => c w + d w) := fun p hp => by
  dsimp only
  rw [h p hp, h' p hp, ← sumF_add]
  exact sumF_congr fun u _ => by rw [Int.add_mul]
theorem Ex.smul {f c : List Int → Int} (a : Int) (h : Ex n ys f c) : Ex n ys (fun p => a * f p) (fun w => a * c w) := fun p hp => by
  dsimp only
  rw [h p hp, ← sumF_mul]
  exact sumF_congr fun u _ => by rw [Int.mul_assoc]
theorem Ex.sub {f g c d : List Int → Int} (h : Ex n ys f c) (h' : Ex n ys g d) : Ex n ys (fun p => f p - g p) (fun w => c w - d w) := fun p hp => by
  dsimp only
  rw [h p hp, h' p hp, ← sumF_sub]
  exact sumF_congr fun u _ => by rw [Int.sub_mul]
theorem Ex.congr {f g c : List Int → Int} (h : Ex n ys f c) (e : ∀ p, P5 n p → g p = f p) : Ex n ys g c := fun p hp => by rw [e p hp]; exact h p hp
theorem Ex.one (h1 : 1 ≤ n) (h4 : n ≤ 4) {v : List Int} (hv : P5 n v) : Ex n ys (FW n ys v) (fun w => if w = v then 1 else 0) := fun p hp => by
  have A := aL h1 h4
  have := sumF_delta (v := v) (fun w => FW n ys w p) A.nodup ((A.mem v).2 hv)
  rw [← this]
  exact sumF_congr fun u _ => by by_cases e : u = v <;> simp [e]

/-- the numbers behind a product with the number at a place -/
def muC (n : Nat) (ys : List Int) (k : Nat) (c : List Int → Int) (u : List Int) : Int :=
  yAt ys u k * c u + sumF (fun w => c w * (((cvUp w k).count u : Nat) : Int)) (permsL n) - sumF (fun w => c w * (((cvDn w k).count u : Nat) : Int)) (permsL n)
theorem Ex.mu (hy : ys.length = n) (h1 : 1 ≤ n) (h4 : n ≤ 4) {f c : List Int → Int} (h : Ex n ys f c) {k : Nat} (hk : k < n) : Ex n ys (fun p => yAt ys p k * f p) (muC n ys k c) := fun p hp => by
  have A := aL h1 h4
  show yAt ys p k * f p = _
  rw [h p hp, ← sumF_mul]
  have e1 : ∀ w ∈ permsL n, yAt ys p k * (c w * FW n ys w p) =
      yAt ys w k * c w * FW n ys w p + (sumF (fun u => c w * (((cvUp w k).count u : Nat) : Int) * FW n ys u p) (permsL n) - sumF (fun u => c w * (((cvDn w k).count u : Nat) : Int) * FW n ys u p) (permsL n)) := fun w hw => by
    have hw' := (A.mem w).1 hw
    have hc := chv_at hw' hk
    have h0 := chev hy h1 _ p rfl hp w k hw' hk
    have u1 : sumF (fun u => c w * (((cvUp w k).count u : Nat) : Int) * FW n ys u p) (permsL n) = c w * sumF (fun u => FW n ys u p) (cvUp w k) := by
      rw [sumF_count _ A.nodup fun x hx => (A.mem x).2 (hc.2.1 x hx).1, ← sumF_mul]
      exact sumF_congr fun u _ => by rw [Int.mul_assoc]
    have u2 : sumF (fun u => c w * (((cvDn w k).count u : Nat) : Int) * FW n ys u p) (permsL n) = c w * sumF (fun u => FW n ys u p) (cvDn w k) := by
      rw [sumF_count _ A.nodup fun x hx => (A.mem x).2 (hc.2.2 x hx).1, ← sumF_mul]
      exact sumF_congr fun u _ => by rw [Int.mul_assoc]
    rw [u1, u2, Int.mul_left_comm, h0]
    grind
  rw [sumF_congr e1, sumF_add, sumF_sub]
  rw [sumF_swap (fun w u => c w * (((cvUp w k).count u : Nat) : Int) * FW n ys u p), sumF_swap (fun w u => c w * (((cvDn w k).count u : Nat) : Int) * FW n ys u p), ← sumF_sub, ← sumF_add]
  refine sumF_congr fun u _ => ?_
  have e2 : ∀ g : List Int → Int, sumF (fun w => g w * FW n ys u p) (permsL n) = sumF g (permsL n) * FW n ys u p := fun g => by
    rw [Int.mul_comm, ← sumF_mul]
    exact sumF_congr fun w _ => Int.mul_comm _ _
  rw [e2 fun w => c w * (((cvUp w k).count u : Nat) : Int), e2 fun w => c w * (((cvDn w k).count u : Nat) : Int)]
  unfold muC
  grind
theorem pick_y {p : List Int} (hp : P5 n p) (i : Nat) : (pickL p ys).getD i 0 = if i < n then yAt ys p i else 0 := by
  by_cases h7 : i < 7
  · rw [pickL_getD _ _ h7]
    unfold pick
    rw [hp.len]
    rfl
  · have := hp.le
    rw [if_neg (by omega), List.getD_eq_getElem?_getD, List.getElem?_eq_none (by rw [pickL_length]; omega)]; rfl
theorem Ex.pick (hy : ys.length = n) (h1 : 1 ≤ n) (h4 : n ≤ 4) {f c : List Int → Int} (h : Ex n ys f c) (i : Nat) : ∃ c', Ex n ys (fun p => (pickL p ys).getD i 0 * f p) c' := by
  by_cases hi : i < n
  · exact ⟨_, (h.mu hy h1 h4 hi).congr fun p hp => by rw [pick_y hp, if_pos hi]⟩
  · exact ⟨_, Ex.zero.congr fun p hp => by rw [pick_y hp, if_neg hi, Int.zero_mul]⟩
theorem Ex.pow (hy : ys.length = n) (h1 : 1 ≤ n) (h4 : n ≤ 4) (i : Nat) : ∀ (t : Nat) {f c : List Int → Int}, Ex n ys f c → ∃ c', Ex n ys (fun p => (pickL p ys).getD i 0 ^ t * f p) c'
  | 0, f, c, h => ⟨c, h.congr fun p _ => by rw [Int.pow_zero, Int.one_mul]⟩
  | t + 1, f, c, h => by
    obtain ⟨c1, h1'⟩ := h.pick hy h1 h4 i
    obtain ⟨c2, h2⟩ := Ex.pow hy h1 h4 i t h1'
    exact ⟨c2, h2.congr fun p _ => by rw [Int.pow_succ, Int.mul_assoc]⟩
theorem Ex.mono (hy : ys.length = n) (h1 : 1 ≤ n) (h4 : n ≤ 4) (e : List Int) {f c : List Int → Int} (h : Ex n ys f c) : ∃ c', Ex n ys (fun p => Go.Proofs.YtgebjjpcgakjgaaGreat.mono (pickL p ys) e * f p) c' := by
  unfold Go.Proofs.YtgebjjpcgakjgaaGreat.mono
  have : ∀ (m : Nat) {f c : List Int → Int}, Ex n ys f c → ∃ c', Ex n ys (fun p => monoK (pickL p ys) e m * f p) c' := fun m => by
    induction m with
    | zero => exact fun h => ⟨_, h.congr fun p _ => by rw [monoK, Int.one_mul]⟩
    | succ m ih =>
      intro f c h
      obtain ⟨c1, h1'⟩ := Ex.pow hy h1 h4 m (e.getD m 0).toNat h
      obtain ⟨c2, h2⟩ := ih h1'
      exact ⟨c2, h2.congr fun p _ => by rw [monoK, Int.mul_assoc]⟩
  exact this 7 h
theorem Ex.ev (hy : ys.length = n) (h1 : 1 ≤ n) (h4 : n ≤ 4) {f c : List Int → Int} (h : Ex n ys f c) : ∀ P : Pl, ∃ c', Ex n ys (fun p => Ev P (Go.Proofs.YtgebjjpcgakjgaaGreat.mono (pickL p ys)) * f p) c'
  | [] => ⟨_, Ex.zero.congr fun p _ => by simp [Ev]⟩
  | q :: P => by
    obtain ⟨c1, h1'⟩ := Ex.ev hy h1 h4 h P
    obtain ⟨c2, h2⟩ := Ex.mono hy h1 h4 q.1 h
    exact ⟨_, ((h2.smul q.2).add h1').congr fun p _ => by simp only [Ev]; rw [Int.add_mul, Int.mul_assoc]⟩
/-- a product of values is a sum of values -/
theorem Ex.prod (hy : ys.length = n) (h1 : 1 ≤ n) (h4 : n ≤ 4) (u : List Int) {v : List Int} (hv : P5 n v) : ∃ c, Ex n ys (fun p => FW n ys u p * FW n ys v p) c :=
  (Ex.one h1 h4 hv).ev hy h1 h4 (lowP 10 u (topI n ys n))

/-! ### there is but one -/
def invNB (v : List Int) : Bool := (invs v).all fun p => decide (0 ≤ p.1 ∧ p.1 < (v.length : Int) ∧ 0 ≤ p.2 ∧ p.2 < (v.length : Int) ∧ p.1 ≠ p.2)
set_option maxRecDepth 100000 in
theorem invN_all : all5 invNB = true := by decide +kernel
theorem prod_ne {v : List Int} (hv : P5 n v) (hd : DstY n ys) : prodP ys (invs v) ≠ 0 := by
  have := all5_at invN_all hv.ok (by have := hv.len; have := hv.le; omega)
  simp only [invNB, List.all_eq_true, decide_eq_true_eq, hv.len] at this
  have key : ∀ L : List (Int × Int), (∀ p ∈ L, 0 ≤ p.1 ∧ p.1 < (n : Int) ∧ 0 ≤ p.2 ∧ p.2 < (n : Int) ∧ p.1 ≠ p.2) → prodP ys L ≠ 0 := fun L => by
    induction L with
    | nil => exact fun _ => by simp [prodP]
    | cons p L ih =>
      intro h
      rw [prodP]
      obtain ⟨a1, a2, b1, b2, hne⟩ := h p List.mem_cons_self
      have := hd p.1.toNat p.2.toNat (by omega) (by omega) (by omega)
      exact Int.mul_ne_zero (by omega) (ih fun q hq => h q (List.mem_cons_of_mem _ hq))
  exact key _ this
theorem FW_ne (hy : ys.length = n) {v : List Int} (hv : P5 n v) (hd : DstY n ys) : FW n ys v v ≠ 0 := by rw [FW_self hv hy]; exact prod_ne hv hd
/-- what a sum is at a permutation, when the numbers of the shorter ones are 0 -/
theorem sum_at (hy : ys.length = n) (h1 : 1 ≤ n) (h4 : n ≤ 4) {d : List Int → Int} {w : List Int} (hw : P5 n w) (h : ∀ u, P5 n u → lnN u < lnN w → d u = 0) : sumF (fun u => d u * FW n ys u w) (permsL n) = d w * FW n ys w w := by
  have A := aL h1 h4
  rw [← sumF_delta (v := w) (fun u => d u * FW n ys u w) A.nodup ((A.mem w).2 hw)]
  refine sumF_congr fun u hu => ?_
  have hu' := (A.mem u).1 hu
  by_cases e : u = w
  · rw [if_pos e]
  · rw [if_neg e]
    by_cases hl : lnN u < lnN w
    · rw [h u hu' hl, Int.zero_mul]
    · have a := (wrd_at hu').2.2.2
      have b := (wrd_at hw).2.2.2
      rw [FW_zero hu' hw hy (by omega) (fun h => e h.symm), Int.mul_zero]
theorem Ex.nil (hy : ys.length = n) (h1 : 1 ≤ n) (h4 : n ≤ 4) (hd : DstY n ys) {d : List Int → Int} (h : Ex n ys (fun _ => 0) d) : ∀ (t : Nat) (w : List Int), lnN w = t → P5 n w → d w = 0 := by
  intro t
  induction t using Nat.strongRecOn with
  | _ t ih =>
    intro w ht hw
    have := h w hw
    rw [sum_at hy h1 h4 hw fun u hu hl => ih (lnN u) (by omega) u rfl hu] at this
    exact (Int.mul_eq_zero.1 this.symm).resolve_right (FW_ne hy hw hd)
theorem Ex.uniq (hy : ys.length = n) (h1 : 1 ≤ n) (h4 : n ≤ 4) (hd : DstY n ys) {f c c' : List Int → Int} (h : Ex n ys f c) (h' : Ex n ys f c') {w : List Int} (hw : P5 n w) : c w = c' w := by
  have := Ex.nil hy h1 h4 hd ((h.sub h').congr fun p _ => by omega) _ w rfl hw
  omega

/-! ### one step down -/
def dnC (k : Nat) (c : List Int → Int) (w : List Int) : Int := if ascB k w then c (sw k w) else 0
theorem sumF_map (F : List Int → Int) (g : List Int → List Int) : ∀ L : List (List Int), sumF F (L.map g) = sumF (fun x => F (g x)) L
  | [] => rfl
  | x :: L => by rw [List.map_cons, sumF_cons, sumF_cons, sumF_map F g L]
theorem Ex.down (h1 : 1 ≤ n) (h4 : n ≤ 4) {f c : List Int → Int} (h : Ex n ys f c) {k : Nat} (hk : k + 1 < n) {p : List Int} (hp : P5 n p) : f (sw k p) - f p = df ys p k * sumF (fun w => dnC k c w * FW n ys w p) (permsL n) := by
  have A := aL h1 h4
  rw [h p hp, h _ (hp.sw hk), ← sumF_sub]
  have e : ∀ w ∈ permsL n, c w * FW n ys w (sw k p) - c w * FW n ys w p = (fun x => df ys p k * (dnC k c x * FW n ys x p)) (sw k w) := fun w hw => by
    have hw' := (A.mem w).1 hw
    rw [FW_rec hw' hp hk]
    unfold dnC
    dsimp only
    cases ha : ascB k w with
    | true => rw [(hw'.asc hk ha).2]; simp
    | false => rw [(hw'.desc hk ha).2, sw_sw (by have := hw'.len; omega)]; simp; grind
  rw [sumF_congr e, ← sumF_map (fun x => df ys p k * (dnC k c x * FW n ys x p)), sumF_perm _ (A.sw k hk), sumF_mul]
theorem prod_step (hy : ys.length = n) (h1 : 1 ≤ n) (h4 : n ≤ 4) (hd : DstY n ys) {u v : List Int} (hu : P5 n u) (hv : P5 n v) {c : List Int → Int} (h : Ex n ys (fun p => FW n ys u p * FW n ys v p) c)
    {k : Nat} (hk : k + 1 < n) : ∃ c1 c2 c3, Ex n ys (fun p => FW n ys (sw k u) p * FW n ys v p) c1 ∧ Ex n ys (fun p => FW n ys u p * FW n ys (sw k v) p) c2 ∧ Ex n ys (fun p => FW n ys (sw k u) p * FW n ys (sw k v) p) c3 ∧
      ∀ w, P5 n w → ascB k w = true → c (sw k w) = (if ascB k u then 0 else c1 w) + (if ascB k v then 0 else c2 w) + (if ascB k u then 0 else if ascB k v then 0 else muC n ys (k + 1) c3 w - muC n ys k c3 w) := by
  obtain ⟨c1, e1⟩ := Ex.prod hy h1 h4 (sw k u) hv
  obtain ⟨c2, e2⟩ := Ex.prod hy h1 h4 u (hv.sw hk)
  obtain ⟨c3, e3⟩ := Ex.prod hy h1 h4 (sw k u) (hv.sw hk)
  refine ⟨c1, c2, c3, e1, e2, e3, fun w hw ha => ?_⟩
  have q1 : Ex n ys (fun p => if ascB k u then 0 else FW n ys (sw k u) p * FW n ys v p) (fun w => if ascB k u then 0 else c1 w) := by
    cases ascB k u
    · exact e1
    · exact Ex.zero
  have q2 : Ex n ys (fun p => if ascB k v then 0 else FW n ys u p * FW n ys (sw k v) p) (fun w => if ascB k v then 0 else c2 w) := by
    cases ascB k v
    · exact e2
    · exact Ex.zero
  have q3 : Ex n ys (fun p => if ascB k u then 0 else if ascB k v then 0 else yAt ys p (k + 1) * (FW n ys (sw k u) p * FW n ys (sw k v) p) - yAt ys p k * (FW n ys (sw k u) p * FW n ys (sw k v) p))
      (fun w => if ascB k u then 0 else if ascB k v then 0 else muC n ys (k + 1) c3 w - muC n ys k c3 w) := by
    cases ascB k u
    · cases ascB k v
      · exact (e3.mu hy h1 h4 hk).sub (e3.mu hy h1 h4 (by omega))
      · exact Ex.zero
    · exact Ex.zero
  have q := (q1.add q2).add q3
  have r : Ex n ys (fun p => sumF (fun w => dnC k c w * FW n ys w p) (permsL n)) (dnC k c) := fun p _ => rfl
  have r' := r.congr (g := fun p => (if ascB k u then 0 else FW n ys (sw k u) p * FW n ys v p) + (if ascB k v then 0 else FW n ys u p * FW n ys (sw k v) p) + (if ascB k u then 0 else if ascB k v then 0 else yAt ys p (k + 1) * (FW n ys (sw k u) p * FW n ys (sw k v) p) - yAt ys p k * (FW n ys (sw k u) p * FW n ys (sw k v) p))) fun p hp => by
    have hdn := h.down h1 h4 hk hp
    rw [FW_rec hu hp hk, FW_rec hv hp hk] at hdn
    have hne := df_ne hd hp hk
    obtain ⟨S, hS⟩ : ∃ S, S = sumF (fun w => dnC k c w * FW n ys w p) (permsL n) := ⟨_, rfl⟩
    rw [← hS] at hdn ⊢
    obtain ⟨a, ha'⟩ : ∃ a, a = df ys p k := ⟨_, rfl⟩
    have hy1 : yAt ys p (k + 1) = yAt ys p k + a := by rw [ha', df_y]; omega
    rw [hy1]
    rw [← ha'] at hdn hne
    obtain ⟨Fu, hFu⟩ : ∃ a, a = FW n ys u p := ⟨_, rfl⟩
    obtain ⟨Fv, hFv⟩ : ∃ a, a = FW n ys v p := ⟨_, rfl⟩
    obtain ⟨Gu, hGu⟩ : ∃ a, a = FW n ys (sw k u) p := ⟨_, rfl⟩
    obtain ⟨Gv, hGv⟩ : ∃ a, a = FW n ys (sw k v) p := ⟨_, rfl⟩
    obtain ⟨y0, hy0⟩ : ∃ a, a = yAt ys p k := ⟨_, rfl⟩
    rw [← hFu, ← hFv, ← hGu, ← hGv] at hdn ⊢
    rw [← hy0]
    have key : a * (((if ascB k u then 0 else Gu * Fv) + (if ascB k v then 0 else Fu * Gv) + (if ascB k u then 0 else if ascB k v then 0 else (y0 + a) * (Gu * Gv) - y0 * (Gu * Gv))) - S) = 0 := by
      rw [Int.mul_sub, ← hdn]
      cases ascB k u <;> cases ascB k v <;> simp <;> grind
    have := cancel hne key
    omega
  have := r'.uniq hy h1 h4 hd q hw
  unfold dnC at this
  rw [if_pos ha] at this
  exact this

/-! ### how great the numbers are -/
def muT (k : Nat) (w x : List Int) : Int := (((cvUp x (k + 1)).count w : Nat) : Int) - (((cvDn x (k + 1)).count w : Nat) : Int) - ((((cvUp x k).count w : Nat) : Int) - (((cvDn x k).count w : Nat) : Int))
def muTB (n : Nat) : Bool := (permsL n).all fun w => (List.range (n - 1)).all fun k => decide ((((permsL n).map fun x => (muT k w x).natAbs).sum) ≤ 8) && (permsL n).all fun x => decide (muT k w x = 0) || decide (lnN x < lnN w)
set_option maxRecDepth 100000 in
theorem muT_all : ∀ n : Fin 4, muTB (n.val + 1) = true := by decide +kernel
theorem muT_at (h1 : 1 ≤ n) (h4 : n ≤ 4) {w : List Int} (hw : P5 n w) {k : Nat} (hk : k + 1 < n) :
    (((permsL n).map fun x => (muT k w x).natAbs).sum ≤ 8) ∧ ∀ x, P5 n x → muT k w x = 0 ∨ lnN x < lnN w := by
  have := muT_all ⟨n - 1, by omega⟩
  rw [show (⟨n - 1, by omega⟩ : Fin 4).val + 1 = n by simp; omega] at this
  simp only [muTB, List.all_eq_true, Bool.and_eq_true, List.mem_range, decide_eq_true_eq, Bool.or_eq_true] at this
  obtain ⟨a, b⟩ := this w (((aL h1 h4).mem w).2 hw) k (by omega)
  exact ⟨a, fun x hx => b x (((aL h1 h4).mem x).2 hx)⟩
theorem mu_diff {k : Nat} (c : List Int → Int) (w : List Int) : muC n ys (k + 1) c w - muC n ys k c w = df ys w k * c w + sumF (fun x => c x * muT k w x) (permsL n) := by
  unfold muC
  rw [df_y]
  have e : sumF (fun x => c x * muT k w x) (permsL n) = sumF (fun x => c x * (((cvUp x (k + 1)).count w : Nat) : Int)) (permsL n) - sumF (fun x => c x * (((cvDn x (k + 1)).count w : Nat) : Int)) (permsL n) -
      (sumF (fun x => c x * (((cvUp x k).count w : Nat) : Int)) (permsL n) - sumF (fun x => c x * (((cvDn x k).count w : Nat) : Int)) (permsL n)) := by
    rw [← sumF_sub, ← sumF_sub, ← sumF_sub]
    refine sumF_congr fun x _ => ?_
    unfold muT
    grind
  rw [e]
  grind
theorem sumF_abs {c t : List Int → Int} {B : Nat} : ∀ {L : List (List Int)}, (∀ x ∈ L, t x = 0 ∨ (c x).natAbs ≤ B) → (sumF (fun x => c x * t x) L).natAbs ≤ B * (L.map fun x => (t x).natAbs).sum
  | [], _ => by simp [sumF]
  | x :: L, h => by
    rw [sumF_cons, List.map_cons, List.sum_cons, Nat.mul_add]
    have ih := sumF_abs (L := L) fun y hy => h y (List.mem_cons_of_mem _ hy)
    have : (c x * t x).natAbs ≤ B * (t x).natAbs := by
      rw [Int.natAbs_mul]
      rcases h x List.mem_cons_self with h | h
      · rw [h]; simp
      · exact Nat.mul_le_mul_right _ h
    omega
theorem df_abs {w : List Int} (hy9 : ∀ x ∈ ys, -9 ≤ x ∧ x ≤ 9) (k : Nat) : (df ys w k).natAbs ≤ 18 := by
  have yr : ∀ i : Nat, -9 ≤ ys.getD i 0 ∧ ys.getD i 0 ≤ 9 := fun i => by
    by_cases hi : i < ys.length
    · exact hy9 _ (getD_mem hi)
    · rw [List.getD_eq_getElem?_getD, List.getElem?_eq_none (by omega)]; simp
  unfold df
  have a := yr (w.getD (k + 1) 0).toNat
  have b := yr (w.getD k 0).toNat
  omega
theorem prod_bound (hy : ys.length = n) (h1 : 1 ≤ n) (h4 : n ≤ 4) (hd : DstY n ys) (hy9 : ∀ x ∈ ys, -9 ≤ x ∧ x ≤ 9) : ∀ (t : Nat) (w u v : List Int) (c : List Int → Int), lnN w = t → P5 n w → P5 n u → P5 n v →
    Ex n ys (fun p => FW n ys u p * FW n ys v p) c → (c w).natAbs ≤ 28 ^ t := by
  intro t
  induction t using Nat.strongRecOn with
  | _ t ih =>
    intro w u v c ht hw hu hv h
    by_cases h0 : lnN w = 0
    · have hi := id_of_len hw h0
      have : FW n ys u w * FW n ys v w = _ := h w hw
      rw [sum_at hy h1 h4 hw fun x _ hl => by omega, hi, FW_id hy h1 hu, FW_id hy h1 hv, FW_id hy h1 (by rw [← hi]; exact hw), if_pos rfl, ← hi] at this
      have e : c w = (if w = u then 1 else 0) * (if w = v then 1 else 0) := by omega
      have : 1 ≤ 28 ^ t := Nat.one_le_pow _ _ (by omega)
      rw [e]
      by_cases a : w = u <;> by_cases b : w = v <;> simp [a, b] <;> omega
    · obtain ⟨k, hk, hdn⟩ : ∃ k, k + 1 < n ∧ ascB k w = false := ((blid_at hw).2).resolve_left h0
      have hl := len_desc hw hk hdn
      have hx := hw.sw hk
      have hax := (hw.desc hk hdn).2
      obtain ⟨c1, c2, c3, e1, e2, e3, hst⟩ := prod_step hy h1 h4 hd hu hv h hk
      have := hst _ hx hax
      rw [sw_sw (by have := hw.len; omega), mu_diff] at this
      have b1 := ih _ (by omega) _ _ _ _ rfl hx (hu.sw hk) hv e1
      have b2 := ih _ (by omega) _ _ _ _ rfl hx hu (hv.sw hk) e2
      have b3 := ih _ (by omega) _ _ _ _ rfl hx (hu.sw hk) (hv.sw hk) e3
      have m := muT_at h1 h4 hx hk
      have b4 := sumF_abs (c := c3) (t := muT k (sw k w)) (B := 28 ^ lnN (sw k w)) (L := permsL n) fun x hx' => by
        have hx5 := ((aL h1 h4).mem x).1 hx'
        rcases m.2 x hx5 with h | h
        · exact .inl h
        · exact .inr (Nat.le_trans (ih _ (by omega) _ _ _ _ rfl hx5 (hu.sw hk) (hv.sw hk) e3) (Nat.pow_le_pow_right (by omega) (by omega)))
      have b5 : 28 ^ lnN (sw k w) * ((permsL n).map fun x => (muT k (sw k w) x).natAbs).sum ≤ 28 ^ lnN (sw k w) * 8 := Nat.mul_le_mul_left _ m.1
      have d1 := df_abs (w := sw k w) hy9 k
      have b6 : (df ys (sw k w) k * c3 (sw k w)).natAbs ≤ 18 * 28 ^ lnN (sw k w) := by rw [Int.natAbs_mul]; exact Nat.mul_le_mul d1 b3
      have hp : 28 ^ t = 28 * 28 ^ lnN (sw k w) := by rw [← ht, ← hl, Nat.pow_succ, Nat.mul_comm]
      rw [hp]
      obtain ⟨X, hX⟩ : ∃ X, X = 28 ^ lnN (sw k w) := ⟨_, rfl⟩
      rw [← hX] at b1 b2 b4 b5 b6 ⊢
      obtain ⟨S, hS⟩ : ∃ S, S = sumF (fun x => c3 x * muT k (sw k w) x) (permsL n) := ⟨_, rfl⟩
      obtain ⟨D, hD⟩ : ∃ D, D = df ys (sw k w) k * c3 (sw k w) := ⟨_, rfl⟩
      rw [← hS] at b4 this
      rw [← hD] at b6 this
      cases ha : ascB k u <;> cases hb : ascB k v <;> simp only [ha, hb, if_true, if_false, Bool.false_eq_true] at this <;> omega

end Go.Proofs.YtgebjjpcgakjgaaGreat

namespace Go.Proofs.YtgebjjpcgakjgaaGreat
set_option linter.all false
set_option maxRecDepth 100000
open Go.RowKit

/-- the shapes: numbers from 1 on that do not grow -/
def DCh : Int → List Int → Prop
  | _, [] => True
  | m, x :: l => 1 ≤ x ∧ x ≤ m ∧ DCh x l
theorem dch_of : ∀ (xs : List Int) (m : Int), (∀ j, j < xs.length → 1 ≤ xs.getD j 0 ∧ (0 < j → xs.getD j 0 ≤ xs.getD (j - 1) 0)) → (0 < xs.length → xs.getD 0 0 ≤ m) → DCh m xs
  | [], _, _, _ => trivial
  | x :: l, m, h, hm => by
    have h0 := (h 0 (by simp)).1
    have hx := hm (by simp)
    simp only [List.getD_cons_zero] at h0 hx
    refine ⟨h0, hx, dch_of l x (fun j hj => ?_) fun hl => ?_⟩
    · have := h (j + 1) (by simpa using hj)
      simp only [List.getD_cons_succ] at this
      refine ⟨this.1, fun hj0 => ?_⟩
      have h2 := this.2 (by omega)
      rw [show j + 1 - 1 = (j - 1) + 1 by omega, List.getD_cons_succ] at h2
      exact h2
    · have := (h 1 (by simpa using hl)).2 (by omega)
      simpa using this
theorem dch_mem : ∀ (r m : Nat) (xs : List Int), DCh (m : Int) xs → xs.length ≤ r → xs ∈ ishs r m
  | 0, m, [], _, _ => by simp [ishs]
  | 0, m, _ :: _, _, h => by simp at h
  | r + 1, m, [], _, _ => by simp [ishs]
  | r + 1, m, x :: l, h, hl => by
    obtain ⟨h1, h2, h3⟩ := h
    rw [ishs]
    refine List.mem_cons_of_mem _ (List.mem_flatMap.2 ⟨x.toNat - 1, by simp; omega, List.mem_map.2 ⟨l, dch_mem r _ l ?_ (by simpa using hl), ?_⟩⟩)
    · rw [show ((x.toNat - 1 + 1 : Nat) : Int) = x by omega]; exact h3
    · rw [show ((x.toNat - 1 : Nat) : Int) + 1 = x by omega]
theorem bx_mem {sh : List Int} {k n : Nat} (h : bxOk sh k n = true) (hk : k ≤ n) : sh ∈ ishs k (n - k) := by
  unfold bxOk at h
  simp only [Bool.and_eq_true, decide_eq_true_eq] at h
  obtain ⟨⟨h1, h2⟩, h3⟩ := h
  obtain ⟨_, hs⟩ := shOk_facts h1
  refine dch_mem _ _ _ (dch_of _ _ (fun j hj => ⟨(hs j hj).1, (hs j hj).2.2⟩) fun _ => by omega) h2

/-- a permutation with numbers put behind it -/
def growL (t : List Int) (n : Nat) : List Int := t ++ (List.range (n - t.length)).map fun (i : Nat) => ((t.length + i : Nat) : Int)
/-- ascending but at k - 1 -/
def grB (k n : Nat) (w : List Int) : Bool := (List.range (n - 1)).all fun j => decide (j + 1 = k) || ascB j w
def shpB (n k : Nat) : Bool :=
  ((permsL n).filter (grB k n)).isPerm ((ishs k (n - k)).map fun sh => gpW sh k n) &&
  ((ishs k (n - k)).all fun sh => permOk (gpW sh k n) && decide ((gpW sh k n).length = n) && decide (growL (trimL (gpW sh k n)) n = gpW sh k n) && decide (shL ((List.range k).map fun (i : Nat) => (gpW sh k n).getD (k - 1 - i) 0 - ((k - 1 - i : Nat) : Int)) = sh) && decide (sh.length ≤ 4) && bxOk sh k n) &&
  decide ((ishs k (n - k)).Pairwise fun a b => ltB a b = true) && decide ((ishs k (n - k)).length ≤ 6)
def shpB4 (n : Nat) : Bool := (List.range (n + 1)).all fun k => shpB n k
set_option maxRecDepth 100000 in
theorem shp_dec : ∀ n : Fin 4, shpB4 (n.val + 1) = true := by decide +kernel
structure ShpIs (n k : Nat) : Prop where
  perm : ((permsL n).filter (grB k n)).Perm ((ishs k (n - k)).map fun sh => gpW sh k n)
  p5 : ∀ sh ∈ ishs k (n - k), P5 n (gpW sh k n)
  grow : ∀ sh ∈ ishs k (n - k), growL (trimL (gpW sh k n)) n = gpW sh k n
  back : ∀ sh ∈ ishs k (n - k), shL ((List.range k).map fun (i : Nat) => (gpW sh k n).getD (k - 1 - i) 0 - ((k - 1 - i : Nat) : Int)) = sh
  short : ∀ sh ∈ ishs k (n - k), sh.length ≤ 4
  box : ∀ sh ∈ ishs k (n - k), bxOk sh k n = true
  asc : (ishs k (n - k)).Pairwise fun a b => ltB a b = true
  six : (ishs k (n - k)).length ≤ 6
theorem shpIs {n k : Nat} (h1 : 1 ≤ n) (h4 : n ≤ 4) (hk : k ≤ n) : ShpIs n k := by
  have := shp_dec ⟨n - 1, by omega⟩
  rw [show (⟨n - 1, by omega⟩ : Fin 4).val + 1 = n by simp; omega] at this
  simp only [shpB4, List.all_eq_true, List.mem_range] at this
  have := this k (by omega)
  simp only [shpB, Bool.and_eq_true, List.all_eq_true, decide_eq_true_eq] at this
  obtain ⟨⟨⟨a, b⟩, c⟩, d⟩ := this
  exact ⟨List.isPerm_iff.1 a, fun sh hs => ⟨(b sh hs).1.1.1.1.1, (b sh hs).1.1.1.1.2, by omega⟩, fun sh hs => (b sh hs).1.1.1.2, fun sh hs => (b sh hs).1.1.2, fun sh hs => (b sh hs).1.2, fun sh hs => (b sh hs).2, c, d⟩

end Go.Proofs.YtgebjjpcgakjgaaGreat

namespace Go.Proofs.YtgebjjpcgakjgaaGreat
set_option linter.all false
open Go.RowKit

/-! ### the subwords, as lists of pairs -/
def subsW (v : List Int) : List Nat → List Int → List Int → List (List (Int × Int))
  | [], _, h => if h = v then [[]] else []
  | k :: r, u, h => subsW v r (sw k u) h ++ (if ascB k h then (subsW v r (sw k u) (sw k h)).map ((u.getD (k + 1) 0, u.getD k 0) :: ·) else [])
def sumP (ys : List Int) : List (List (Int × Int)) → Int
  | [] => 0
  | l :: S => prodP ys l + sumP ys S
theorem sumP_append (ys : List Int) : ∀ A B, sumP ys (A ++ B) = sumP ys A + sumP ys B
  | [], B => by simp [sumP]
  | l :: A, B => by rw [List.cons_append, sumP, sumP, sumP_append ys A B]; omega
theorem sumP_map (ys : List Int) (p : Int × Int) : ∀ A, sumP ys (A.map (p :: ·)) = (ys.getD p.1.toNat 0 - ys.getD p.2.toNat 0) * sumP ys A
  | [] => by simp [sumP]
  | l :: A => by rw [List.map_cons, sumP, sumP, sumP_map ys p A, prodP, Int.mul_add]
theorem sumS_subs (v ys : List Int) : ∀ (r : List Nat) (u h : List Int), sumS v ys r u h = sumP ys (subsW v r u h)
  | [], u, h => by
    rw [sumS, subsW]
    by_cases e : h = v
    · rw [if_pos e, if_pos e]; simp [sumP, prodP]
    · rw [if_neg e, if_neg e]; rfl
  | k :: r, u, h => by
    rw [sumS, subsW, sumP_append, sumS_subs v ys r]
    congr 1
    cases ascB k h with
    | true => rw [if_pos rfl, if_pos rfl, sumP_map, sumS_subs v ys r]
    | false => rfl

def nd (ys : List Int) (p : Int × Int) : Nat := (ys.getD p.1.toNat 0 - ys.getD p.2.toNat 0).natAbs
def prodN (ys : List Int) : List (Int × Int) → Nat
  | [] => 1
  | p :: l => nd ys p * prodN ys l
theorem prodP_abs (ys : List Int) : ∀ l, (prodP ys l).natAbs = prodN ys l
  | [] => rfl
  | p :: l => by rw [prodP, prodN, Int.natAbs_mul, prodP_abs ys l]; rfl
theorem prodN_perm (ys : List Int) {a b : List (Int × Int)} (h : a.Perm b) : prodN ys a = prodN ys b := by
  induction h with
  | nil => rfl
  | cons x _ ih => rw [prodN, prodN, ih]
  | swap x y l => simp only [prodN]; rw [Nat.mul_left_comm]
  | trans _ _ a b => exact a.trans b
def normP (p : Int × Int) : Int × Int := if p.1 ≤ p.2 then p else (p.2, p.1)
theorem prodN_norm (ys : List Int) : ∀ l, prodN ys (l.map normP) = prodN ys l
  | [] => rfl
  | p :: l => by
    rw [List.map_cons, prodN, prodN, prodN_norm ys l]
    congr 1
    unfold normP nd
    split
    · rfl
    · dsimp only; omega
theorem prodN_small (ys : List Int) (hd : ∀ p, nd ys p ≤ 18) : ∀ l, prodN ys l ≤ 18 ^ l.length
  | [] => Nat.le_refl _
  | p :: l => by rw [prodN, List.length_cons, Nat.pow_succ, Nat.mul_comm (18 ^ _)]; exact Nat.mul_le_mul (hd p) (prodN_small ys hd l)
theorem sumP_abs (ys : List Int) (B : Nat) : ∀ S, (∀ l ∈ S, prodN ys l ≤ B) → (sumP ys S).natAbs ≤ S.length * B
  | [], _ => by simp [sumP]
  | l :: S, h => by
    rw [sumP, List.length_cons, Nat.add_mul, Nat.one_mul]
    have a := sumP_abs ys B S fun x hx => h x (List.mem_cons_of_mem _ hx)
    have b := h l List.mem_cons_self
    rw [← prodP_abs] at b
    omega

/-! ### six differences of four numbers -/
def six : List (Int × Int) := [(0, 1), (1, 2), (2, 3), (0, 2), (1, 3), (0, 3)]
def sixB (a b c : Nat) : Bool :=
  let d01 := if a ≤ 18 then 18 - a else a - 18
  let d12 := if b ≤ 18 then 18 - b else b - 18
  let d23 := if c ≤ 18 then 18 - c else c - 18
  let d02 := if a + b ≤ 36 then 36 - (a + b) else a + b - 36
  let d13 := if b + c ≤ 36 then 36 - (b + c) else b + c - 36
  let d03 := if a + b + c ≤ 54 then 54 - (a + b + c) else a + b + c - 54
  if 18 < d02 then true else if 18 < d13 then true else if 18 < d03 then true else
  Nat.ble (d01 * d12 * d23 * d02 * d13 * d03) 1000000 && (Nat.ble (d12 * d23 * d02 * d13 * d03) 500000 && (Nat.ble (d01 * d23 * d02 * d13 * d03) 500000 && (Nat.ble (d01 * d12 * d02 * d13 * d03) 500000 && (Nat.ble (d01 * d12 * d23 * d13 * d03) 500000 && (Nat.ble (d01 * d12 * d23 * d02 * d03) 500000 && Nat.ble (d01 * d12 * d23 * d02 * d13) 500000)))))
def sixAll : Bool := (List.range 37).all fun a => (List.range 37).all fun b => (List.range 37).all fun c => sixB a b c
set_option maxRecDepth 100000 in
theorem six_all : sixAll = true := by decide +kernel
theorem six_at {ys : List Int} (hy9 : ∀ i : Nat, -9 ≤ ys.getD i 0 ∧ ys.getD i 0 ≤ 9) : prodN ys six ≤ 1000000 ∧ ∀ i : Fin 6, prodN ys (six.eraseIdx i.val) ≤ 500000 := by
  have h0 := hy9 0
  have h1 := hy9 1
  have h2 := hy9 2
  have h3 := hy9 3
  obtain ⟨y0, e0⟩ : ∃ y, y = ys.getD 0 0 := ⟨_, rfl⟩
  obtain ⟨y1, e1⟩ : ∃ y, y = ys.getD 1 0 := ⟨_, rfl⟩
  obtain ⟨y2, e2⟩ : ∃ y, y = ys.getD 2 0 := ⟨_, rfl⟩
  obtain ⟨y3, e3⟩ : ∃ y, y = ys.getD 3 0 := ⟨_, rfl⟩
  rw [← e0] at h0
  rw [← e1] at h1
  rw [← e2] at h2
  rw [← e3] at h3
  have hs := six_all
  unfold sixAll at hs
  simp only [List.all_eq_true, List.mem_range] at hs
  have hs := hs (y1 - y0 + 18).toNat (by omega) (y2 - y1 + 18).toNat (by omega) (y3 - y2 + 18).toNat (by omega)
  obtain ⟨d01, g01⟩ : ∃ d, d = (y0 - y1).natAbs := ⟨_, rfl⟩
  obtain ⟨d12, g12⟩ : ∃ d, d = (y1 - y2).natAbs := ⟨_, rfl⟩
  obtain ⟨d23, g23⟩ : ∃ d, d = (y2 - y3).natAbs := ⟨_, rfl⟩
  obtain ⟨d02, g02⟩ : ∃ d, d = (y0 - y2).natAbs := ⟨_, rfl⟩
  obtain ⟨d13, g13⟩ : ∃ d, d = (y1 - y3).natAbs := ⟨_, rfl⟩
  obtain ⟨d03, g03⟩ : ∃ d, d = (y0 - y3).natAbs := ⟨_, rfl⟩
  unfold sixB at hs
  have r01 : (if (y1 - y0 + 18).toNat ≤ 18 then 18 - (y1 - y0 + 18).toNat else (y1 - y0 + 18).toNat - 18) = d01 := by split <;> omega
  have r12 : (if (y2 - y1 + 18).toNat ≤ 18 then 18 - (y2 - y1 + 18).toNat else (y2 - y1 + 18).toNat - 18) = d12 := by split <;> omega
  have r23 : (if (y3 - y2 + 18).toNat ≤ 18 then 18 - (y3 - y2 + 18).toNat else (y3 - y2 + 18).toNat - 18) = d23 := by split <;> omega
  have r02 : (if (y1 - y0 + 18).toNat + (y2 - y1 + 18).toNat ≤ 36 then 36 - ((y1 - y0 + 18).toNat + (y2 - y1 + 18).toNat) else (y1 - y0 + 18).toNat + (y2 - y1 + 18).toNat - 36) = d02 := by split <;> omega
  have r13 : (if (y2 - y1 + 18).toNat + (y3 - y2 + 18).toNat ≤ 36 then 36 - ((y2 - y1 + 18).toNat + (y3 - y2 + 18).toNat) else (y2 - y1 + 18).toNat + (y3 - y2 + 18).toNat - 36) = d13 := by split <;> omega
  have r03 : (if (y1 - y0 + 18).toNat + (y2 - y1 + 18).toNat + (y3 - y2 + 18).toNat ≤ 54 then 54 - ((y1 - y0 + 18).toNat + (y2 - y1 + 18).toNat + (y3 - y2 + 18).toNat) else (y1 - y0 + 18).toNat + (y2 - y1 + 18).toNat + (y3 - y2 + 18).toNat - 54) = d03 := by split <;> omega
  rw [r01, r12, r23, r02, r13, r03] at hs
  rw [if_neg (by omega), if_neg (by omega), if_neg (by omega)] at hs
  simp only [Bool.and_eq_true, Nat.ble_eq] at hs
  have n01 : nd ys (0, 1) = d01 := by rw [g01, e0, e1]; rfl
  have n12 : nd ys (1, 2) = d12 := by rw [g12, e1, e2]; rfl
  have n23 : nd ys (2, 3) = d23 := by rw [g23, e2, e3]; rfl
  have n02 : nd ys (0, 2) = d02 := by rw [g02, e0, e2]; rfl
  have n13 : nd ys (1, 3) = d13 := by rw [g13, e1, e3]; rfl
  have n03 : nd ys (0, 3) = d03 := by rw [g03, e0, e3]; rfl
  obtain ⟨s0, s1, s2, s3, s4, s5, s6⟩ := hs
  refine ⟨?_, fun i => ?_⟩
  · simp only [six, prodN, n01, n12, n23, n02, n13, n03, Nat.mul_one]
    simpa only [Nat.mul_assoc] using s0
  · match i with
    | ⟨0, _⟩ => simp only [six, List.eraseIdx, prodN, n01, n12, n23, n02, n13, n03, Nat.mul_one]; simpa only [Nat.mul_assoc] using s1
    | ⟨1, _⟩ => simp only [six, List.eraseIdx, prodN, n01, n12, n23, n02, n13, n03, Nat.mul_one]; simpa only [Nat.mul_assoc] using s2
    | ⟨2, _⟩ => simp only [six, List.eraseIdx, prodN, n01, n12, n23, n02, n13, n03, Nat.mul_one]; simpa only [Nat.mul_assoc] using s3
    | ⟨3, _⟩ => simp only [six, List.eraseIdx, prodN, n01, n12, n23, n02, n13, n03, Nat.mul_one]; simpa only [Nat.mul_assoc] using s4
    | ⟨4, _⟩ => simp only [six, List.eraseIdx, prodN, n01, n12, n23, n02, n13, n03, Nat.mul_one]; simpa only [Nat.mul_assoc] using s5
    | ⟨5, _⟩ => simp only [six, List.eraseIdx, prodN, n01, n12, n23, n02, n13, n03, Nat.mul_one]; simpa only [Nat.mul_assoc] using s6
    | ⟨k + 6, h⟩ => omega

/-! ### the bound -/
def bndS (S : List (List (Int × Int))) : Bool :=
  (decide (S.length ≤ 9) && S.all fun l => decide (l.length ≤ 4)) || (decide (S.length ≤ 2) && S.all fun l => (List.range 6).any fun i => (l.map normP).isPerm (six.eraseIdx i)) || (decide (S.length ≤ 1) && S.all fun l => (l.map normP).isPerm six)
def bndB (v w : List Int) : Bool := bndS (subsW v (fstL w) (idL w.length) (idL w.length))
set_option maxRecDepth 100000 in
theorem bnd_all : pair4 bndB = true := by decide +kernel
theorem FW_bound {n : Nat} {ys v w : List Int} (hy : ys.length = n) (h1 : 1 ≤ n) (h4 : n ≤ 4) (hy9 : ∀ x ∈ ys, -9 ≤ x ∧ x ≤ 9) (hv : P5 n v) (hw : P5 n w) : (FW n ys v w).natAbs ≤ 1000000 := by
  have hb := pair4_at bnd_all hv hw h4
  have hwd := wrd_at hw
  have hval := sum_val hy h1 (by omega) _ (fstL w) v rfl hv hwd.2.1
  rw [hwd.1, sumS_subs] at hval
  rw [hval]
  unfold bndB at hb
  rw [hw.len] at hb
  obtain ⟨S, hS⟩ : ∃ S, S = subsW v (fstL w) (idL n) (idL n) := ⟨_, rfl⟩
  rw [← hS] at hb ⊢
  have yr : ∀ i : Nat, -9 ≤ ys.getD i 0 ∧ ys.getD i 0 ≤ 9 := fun i => by
    by_cases hi : i < ys.length
    · exact hy9 _ (getD_mem hi)
    · rw [List.getD_eq_getElem?_getD, List.getElem?_eq_none (by omega)]; simp
  have hd : ∀ p, nd ys p ≤ 18 := fun p => by
    have a := yr p.1.toNat
    have b := yr p.2.toNat
    unfold nd
    omega
  have h6 := six_at yr
  unfold bndS at hb
  simp only [Bool.or_eq_true, Bool.and_eq_true, List.all_eq_true, decide_eq_true_eq, List.any_eq_true, List.mem_range] at hb
  rcases hb with (⟨a, b⟩ | ⟨a, b⟩) | ⟨a, b⟩
  · have := sumP_abs ys (18 ^ 4) S fun l hl => Nat.le_trans (prodN_small ys hd l) (Nat.pow_le_pow_right (by omega) (b l hl))
    have := Nat.mul_le_mul_right (18 ^ 4) a
    omega
  · have := sumP_abs ys 500000 S fun l hl => by
      obtain ⟨i, hi, hp⟩ := b l hl
      rw [← prodN_norm, prodN_perm ys (List.isPerm_iff.1 hp)]
      exact h6.2 ⟨i, hi⟩
    have := Nat.mul_le_mul_right 500000 a
    omega
  · have := sumP_abs ys 1000000 S fun l hl => by
      rw [← prodN_norm, prodN_perm ys (List.isPerm_iff.1 (b l hl))]
      exact h6.1
    have := Nat.mul_le_mul_right 1000000 a
    omega

/-! ### values differ by multiples -/
theorem pickL_swap {n : Nat} {p ys : List Int} (hp : P5 n p) {i j : Nat} (hi : i < n) (hj : j < n) (t : Nat) : Mg (yAt ys p i - yAt ys p j) ((pickL p ys).getD t 0) ((pickL (swapL p i j) ys).getD t 0) := by
  have h5 := hp.le
  have hl := hp.len
  by_cases h7 : t < 7
  · rw [pickL_getD _ _ h7, pickL_getD _ _ h7]
    unfold pick
    rw [swapL_length]
    by_cases ht : t < p.length
    · rw [if_pos ht, if_pos ht, swapL_getD (by omega) (by omega)]
      by_cases h1 : t = j
      · rw [if_pos h1, h1]
        show Mg _ (yAt ys p j) (yAt ys p i)
        exact ⟨-1, by omega⟩
      · rw [if_neg h1]
        by_cases h2 : t = i
        · rw [if_pos h2, h2]
          show Mg _ (yAt ys p i) (yAt ys p j)
          exact ⟨1, by omega⟩
        · rw [if_neg h2]; exact Mg.refl _ _
    · rw [if_neg ht, if_neg ht]; exact Mg.refl _ _
  · have a : ∀ y, (pickL y ys).getD t 0 = 0 := fun y => by rw [List.getD_eq_getElem?_getD, List.getElem?_eq_none (by rw [pickL_length]; omega)]; rfl
    rw [a, a]; exact Mg.refl _ _
theorem FW_swap {n : Nat} {p ys : List Int} (hp : P5 n p) {i j : Nat} (hi : i < n) (hj : j < n) (v : List Int) : Mg (yAt ys p i - yAt ys p j) (FW n ys v p) (FW n ys v (swapL p i j)) :=
  EV_mg (pickL_swap hp hi hj)
theorem Mg.tmod {N a b : Int} (h : Mg N a b) : (a - b).tmod N = 0 := by
  obtain ⟨m, rfl⟩ := h
  have : b + N * m - b = N * m := by omega
  rw [this]
  exact Int.mul_tmod_right N m

end Go.Proofs.YtgebjjpcgakjgaaGreat

namespace Go.Proofs.YtgebjjpcgakjgaaGreat
set_option linter.all false
open Go.RowKit

/-- a word as numbers -/
def wz (r : List Nat) : List Int := r.map fun (k : Nat) => (k : Int)
theorem wz_length (r : List Nat) : (wz r).length = r.length := by simp [wz]
theorem wz_getD {r : List Nat} {j : Nat} (h : j < r.length) : (wz r).getD j 0 = (r.getD j 0 : Nat) := by simp [wz, List.getD_eq_getElem?_getD, h]
theorem wz_snoc (r : List Nat) (k : Nat) : wz (r ++ [k]) = wz r ++ [(k : Int)] := by simp [wz]

end Go.Proofs.YtgebjjpcgakjgaaGreat

namespace Go.Proofs.YtgebjjpcgakjgaaGreat
set_option linter.all false
open Go.RowKit

end Go.Proofs.YtgebjjpcgakjgaaGreat

namespace Go.Proofs.YtgebjjpcgakjgaaGreat
set_option linter.all false
set_option maxRecDepth 100000
open Go.RowKit

/-- a list that lies in no block that grows -/
def Apart (v u : Value) : Prop := ∀ b off l k, v = .slice (some ⟨b, off, none⟩) l k → u.ownBlock ≠ some b
theorem Ints.grown {w w' : World} {v u : Value} {xs : List Int} (h : Ints w v xs) (hg : w.grownBy w' u.ownBlock) (hn : Apart v u) : Ints w' v xs := by
  obtain ⟨p, cap, rfl, h1, hc⟩ := h
  refine ⟨p, cap, rfl, h1, fun h0 => ?_⟩
  obtain ⟨b, off, rfl, hc2⟩ := hc h0
  refine ⟨b, off, rfl, fun j hj => ?_⟩
  have hc0 := hc2 j hj
  rw [← hc0]
  exact World.cell?_of_block (hg.block b (World.block_lt_of_cell? _ _ hc0) (fun e => hn b off _ _ rfl e.symm))
theorem Ints.apart {w : World} {v u : Value} {xs : List Int} (h : Ints w v xs) (h0 : 0 < xs.length) {lo : Nat} (hlo : w.heap.size ≤ lo) (hu : ∀ k, u.ownBlock = some k → lo ≤ k) : Apart v u := by
  obtain ⟨p, cap, rfl, h1, hc⟩ := h
  obtain ⟨b, off, rfl, hc2⟩ := hc h0
  intro b' off' l k e hb
  injection e with e
  injection e with e
  injection e with e1
  subst e1
  have : b < w.heap.size := World.block_lt_of_cell? _ _ (hc2 0 h0)
  have := hu _ hb
  omega
theorem apart_own {T : TypeId} {w : World} {lo hi : Nat} {v u : Value} {xs : List Int} (h : OwnI T w lo hi v xs) (hu : ∀ k, u.ownBlock = some k → k < lo) : Apart v u := by
  intro b off l k e hb
  have h1 := hu _ hb
  have := h.fn.blocks b (by rw [e]; rfl)
  omega

end Go.Proofs.YtgebjjpcgakjgaaGreat

namespace Go.Proofs.YtgebjjpcgakjgaaGreat
set_option linter.all false
set_option maxRecDepth 100000
open Go.RowKit

theorem wrap_cg (x : Int) : Cg (wrap64 x) x := ⟨(wrap64 x - x) / M64, by unfold wrap64 M64; omega⟩
theorem wrap_eq {x y : Int} (h : Cg x y) : wrap64 x = wrap64 y := by
  obtain ⟨m, rfl⟩ := h
  unfold wrap64 M64; omega
/-- numbers of a permutation, each a place -/
def PlcOk (n : Nat) (u : List Int) : Prop := u.length = n ∧ ∀ j, j < n → ∃ m : Nat, u.getD j 0 = (m : Int) ∧ m < n
theorem PlcOk.sw {n : Nat} {u : List Int} (h : PlcOk n u) {k : Nat} (hk : k + 1 < n) : PlcOk n (sw k u) := by
  refine ⟨by rw [sw_length]; exact h.1, fun j hj => ?_⟩
  rw [Go.Proofs.YtgebjjpcgakjgaaGreat.sw, swapL_getD (by rw [h.1]; omega) (by rw [h.1]; omega)]
  split
  · exact h.2 k (by omega)
  · split
    · exact h.2 (k + 1) hk
    · exact h.2 j hj

end Go.Proofs.YtgebjjpcgakjgaaGreat

namespace Go.Proofs.YtgebjjpcgakjgaaGreat
set_option linter.all false
set_option maxRecDepth 100000
open Go.RowKit

def locOk (vs ws ys : List Int) : Bool := permOk vs && permOk ws && decide (vs.length = ws.length) && nmOk vs.length ys
/-- what Localize says -/
def locL (vs ws ys : List Int) : Int × Bool := if locOk vs ws ys then (wrap64 (Ev (dblP vs ys) (mono (pickL ws ys))), true) else (0, false)
def RetIB (w : World) (r : Int × Bool) (e : Ending) (w' : World) : Prop := e = .returned (.tuple #[.int .i64 r.1, .bool r.2]) ∧ Below w.heap.size w w'
theorem locL_no {vs ws ys : List Int} (h : locOk vs ws ys = false) : locL vs ws ys = (0, false) := by unfold locL; rw [h]; rfl
theorem locL_yes {vs ws ys : List Int} (h : locOk vs ws ys = true) : locL vs ws ys = (wrap64 (Ev (dblP vs ys) (mono (pickL ws ys))), true) := by unfold locL; rw [h]; rfl
structure LocIs (n : Nat) (vs ws ys : List Int) : Prop where
  v : P5 n vs
  w : P5 n ws
  y : ys.length = n
  one : 1 ≤ n
  y9 : ∀ x ∈ ys, -9 ≤ x ∧ x ≤ 9
theorem locIs_of {vs ws ys : List Int} (h1 : permOk vs = true) (h2 : permOk ws = true) (h3 : vs.length = ws.length) (h4 : nmOk vs.length ys = true) : LocIs vs.length vs ws ys := by
  obtain ⟨n, e, hn1, hn5, hyl, hy9⟩ := nm_facts h4
  have e := Int.ofNat.inj e
  rw [← e] at hn1 hn5 hyl
  exact ⟨⟨h1, rfl, hn5⟩, ⟨h2, h3.symm, hn5⟩, hyl, hn1, all_of_getD fun k hk => hy9 k (by omega)⟩
theorem ret_ib {a : Int} {b : Bool} {r : Int × Bool} (h : (a, b) = r) : Ending.returned (.tuple #[.int .i64 a, .bool b]) = .returned (.tuple #[.int .i64 r.1, .bool r.2]) := by rw [← h]

theorem nm_no {n : Nat} {ys : List Int} (h : ¬ n ≤ 5) : nmOk n ys = false := by unfold nmOk; rw [decide_eq_false (show ¬ (n : Int) ≤ 5 by omega)]; simp

end Go.Proofs.YtgebjjpcgakjgaaGreat

namespace Go.Proofs.YtgebjjpcgakjgaaGreat
set_option linter.all false
open Go.RowKit

theorem blk5 {w : World} {b : Nat} {x0 x1 x2 x3 x4 : Value} {T : TypeId} (h : w.heap[b]? = some (.cells #[x0, x1, x2, x3, x4] T (0, 0))) :
    w.cell? ⟨b, 0, none⟩ = some x0 ∧ w.cell? ⟨b, 1, none⟩ = some x1 ∧ w.cell? ⟨b, 2, none⟩ = some x2 ∧ w.cell? ⟨b, 3, none⟩ = some x3 ∧ w.cell? ⟨b, 4, none⟩ = some x4 ∧ (∀ j, w.frozen? ⟨b, j, none⟩ = false) ∧ b < w.heap.size :=
  ⟨cell_of_blk h rfl, cell_of_blk h rfl, cell_of_blk h rfl, cell_of_blk h rfl, cell_of_blk h rfl, free_of_blk h, blk_lt h⟩
theorem ints_nil (w : World) (p : Option Addr) : Ints w (.slice p 0 0) [] := ⟨p, 0, rfl, ⟨Nat.le_refl _, Nat.zero_le _⟩, fun h => absurd h (by simp)⟩
theorem own_nil (T : TypeId) (w : World) (lo hi : Nat) : OwnI T w lo hi (.slice none 0 0) [] := ⟨World.ownsRow_nil _ _ _ _, fun k hk => by simp [Value.ownBlock] at hk⟩

end Go.Proofs.YtgebjjpcgakjgaaGreat

namespace Go.Proofs.YtgebjjpcgakjgaaGreat
set_option linter.all false
open Go.RowKit

set_option maxRecDepth 100000 in
set_option maxHeartbeats 2000000 in
theorem implPerms_go (n : Nat) (hn : n ≤ 5) (f : Nat) : ∀ (ch : List Int) (v : Value) (lo hi : Nat) (w : World), OwnI 3 w lo hi v ch → hi ≤ w.heap.size → lo ≤ w.heap.size → ch.length + f = n →
    Calls Tryz.prog 59 #[.int .i64 n, v] w fun e w' => ∃ u, e = .returned u ∧ OwnII 24 3 w' lo w'.heap.size u (allL n f ch) ∧ Below w.heap.size w w' := by
  induction f with
  | zero =>
    intro ch v lo hi w h hhi hlo hf
    have H := Lib.hid h
    obtain ⟨p, k, rfl, _, _⟩ := h.shape
    clear h
    obtain rfl : n = ch.length := by omega
    clear hf
    go_enter Tryz.func59, Tryz.ntmps59
    go_wp2_with fail
    go_ret
    refine ⟨_, rfl, ⟨fun _ => .slice p ch.length k, ?_, fun i hi => ?_, fun i j hij hj => ?_⟩, below_alloc _ _⟩
    · refine ⟨[.slice p ch.length k], Own.of_rowIs (g := w.heap.size) (n := 1) (cap := 1) (F := fun _ => .slice p ch.length k) ⟨#[.slice p ch.length k], heap_alloc_top _ _, rfl, fun i hi => ?_⟩ hlo (by simp) (Nat.le_refl _) (by unfold maxLen; omega) rfl (fun j hj => ?_), fun j hj => ?_⟩
      · obtain rfl : i = 0 := by omega
        rfl
      · obtain rfl : j = 0 := by omega
        rfl
      · obtain rfl : j = 0 := by simpa [allL] using hj
        rfl
    · obtain rfl : i = 0 := by simpa [allL] using hi
      exact ((H.out.below (below_alloc _ _))).mono (Nat.le_refl _) (by simp; omega)
    · have : j = 0 := by simpa [allL] using hj
      omega
  | succ f ih =>
    intro ch v lo hi w h hhi hlo hf
    have H := Lib.hid h
    have Ih := Lib.hid ih
    obtain ⟨p, k, rfl, _, _⟩ := h.shape
    have hne : (((ch.length : Int)) == (n : Int)) = false := by simp; omega
    clear h ih
    go_enter Tryz.func59, Tryz.ntmps59
    go_wp2_with fail
    go_loopg [5, 15] n (fun g s5 i wr => ∃ (x : Nat) (rows : List (List Int)), x ≤ n ∧ g = n - x ∧ i = .int .i64 x ∧ Below w.heap.size w wr ∧
      Hid (rows = (List.range x).flatMap fun (y : Nat) => if (y : Int) ∈ ch then [] else allL n f (ch ++ [(y : Int)])) ∧ Hid (OwnII 24 3 wr w.heap.size wr.heap.size s5 rows))
    case atStart => exact ⟨0, [], Nat.zero_le _, rfl, rfl, below_alloc _ _, rfl, ⟨fun _ => undef, (OwnF.made0 w _ _).mono (Nat.le_refl _) (by simp), fun i hi => absurd hi (by simp), fun i j _ hj => absurd hj (by simp)⟩⟩
    case round =>
      obtain ⟨x, rows, hx, rfl, rfl, hb, hr, ho⟩ := hrel
      obtain ⟨wo, rfl⟩ : ∃ x : World, x = wr := ⟨_, rfl⟩
      obtain ⟨p3, k3, rfl, _, _⟩ := ho.out.shape
      by_cases hlt : x < n
      · have hci : Ints wo (.slice p ch.length k) ch := (H.out.below hb).ints
        go_wp2_with fail
        refine (contains_any _ ch x _ hci).mono ?_
        rintro e w1 ⟨rfl, hq⟩
        by_cases hc : (x : Int) ∈ ch
        · rw [decide_eq_true hc]
          have hr2 : rows = (List.range (x + 1)).flatMap fun (y : Nat) => if (y : Int) ∈ ch then [] else allL n f (ch ++ [(y : Int)]) := by
            rw [flatMap_snoc, if_pos hc, List.append_nil]
            exact hr.out
          have Hr2 := Lib.hid hr2
          have Ho2 := Lib.hid (ho.out.below (hq.below _))
          have hqs := hq.size
          have Hb2 := Lib.hid (hb.trans (hq.below _))
          clear hr2 hci hc hq hr ho
          go_wp2
          go_roundg (n - (x + 1))
          case measure => omega
          case rel => exact ⟨x + 1, rows, by omega, rfl, by go_num, Hb2.out, Hr2.out, by rw [hqs]; exact Ho2.out⟩
        · rw [decide_eq_false hc]
          have hr2 : rows ++ allL n f (ch ++ [(x : Int)]) = (List.range (x + 1)).flatMap fun (y : Nat) => if (y : Int) ∈ ch then [] else allL n f (ch ++ [(y : Int)]) := by
            rw [flatMap_snoc, if_neg hc, hr.out]
          have hpow : n ^ f ≤ 3125 := Nat.le_trans (Nat.pow_le_pow_left hn f) (Nat.pow_le_pow_right (by decide) (show f ≤ 5 by omega))
          have hrl : rows.length ≤ x * n ^ f := by
            rw [hr.out]
            refine flatMap_len _ _ (fun y => ?_) x
            split
            · simp
            · exact allL_len _ _ _
          have hrl2 : rows.length + (allL n f (ch ++ [(x : Int)])).length ≤ 18750 := by
            have h1 : x * n ^ f ≤ 5 * 3125 := Nat.mul_le_mul (by omega) hpow
            have h2 := allL_len n f (ch ++ [(x : Int)])
            omega
          have Hr2 := Lib.hid hr2
          have Hbnd := Lib.hid hrl2
          have Hq := Lib.hid hq
          have Hci := Lib.hid (hci.qt hq)
          have hqs := hq.size
          have hs1 := hb.size
          have hc5 : ch.length ≤ 5 := by omega
          have Hc1 := Lib.hid (show ch.length + 1 ≤ maxLen by unfold maxLen; omega)
          have Hc2 := Lib.hid (show (ch.length + 1) * 8 ≤ 140737488355328 by omega)
          have Hlen := Lib.hid (show (ch ++ [(x : Int)]).length + f = n by simp; omega)
          clear hr2 hrl2 hrl hpow hci hc hq hr
          go_wp2_with fail
          refine (clone_any _ ch _ Hci.out (by omega)).mono ?_
          rintro e w2 ⟨u, rfl, ho2, hb2⟩
          obtain ⟨p2, k2, rfl, _, _⟩ := ho2.shape
          have Ho2 := Lib.hid ho2
          have hs2 := hb2.size
          go_wp2_with (at_builtin; go_must (refine wpList_append_F rfl (.tmp 25) (.tmp 27) 24 rfl 3 (.int .i64 0) 8 Tryz.underlying24 info_int rfl w1.heap.size w2.heap.size _ ch.length (iv ch) rfl ((Ho2.out.below (below_alloc _ _)).fn) (by simp; omega) (by simp) _ _ _ rfl (rd_one _ _ _ rfl) (fun j _ => rfl) Hc1.out Hc2.out ?_; intro v' w3 ho3 hg3))
          have ho4 := OwnI.snoc1 ho3
          have hs3 := hg3.size
          simp only [size_alloc] at hs3
          have hb3 : Below wo.heap.size wo w3 := (Hq.out.below _).trans ((hb2.mono (by omega)).trans (((below_alloc w2 _).mono (by omega)).trans (grownBy_below hg3 Ho2.out.fn.blocks (by omega) (by simp; omega))))
          obtain ⟨p4, k4, rfl, _, _⟩ := ho4.shape
          refine (Ih.out (ch ++ [(x : Int)]) _ w1.heap.size w3.heap.size w3 ho4 (Nat.le_refl _) (by omega) Hlen.out).mono ?_
          rintro e w5 ⟨u5, rfl, ho5, hb5⟩
          generalize allL n f (ch ++ [(x : Int)]) = new at *
          have hb6 : Below wo.heap.size wo w5 := hb3.trans (hb5.mono (by omega))
          have hs5 := hb5.size
          obtain ⟨p5, k5, rfl, _, _⟩ := ho5.shape
          obtain ⟨F, g1, g2, g3⟩ := ho
          obtain ⟨G, j1, j2, j3⟩ := ho5
          have G1 := Lib.hid (g1.below hb6)
          have G2 := Lib.hid (fun i hi => (g2 i hi).below hb6)
          have G3 := Lib.hid g3
          have J1 := Lib.hid j1
          have J2 := Lib.hid j2
          have J3 := Lib.hid j3
          have hone : ∀ j, j < new.length → (G j).oneCell' = true := fun j hj => by
            obtain ⟨p, c, e, _⟩ := (j2 j hj).shape
            rw [e]; rfl
          have Hone := Lib.hid hone
          have hbnd := Hbnd.out
          have Hd1 := Lib.hid (show rows.length + new.length ≤ maxLen by unfold maxLen; omega)
          have Hd2 := Lib.hid (show (rows.length + new.length) * 24 ≤ 140737488355328 by omega)
          have Hb6 := Lib.hid hb6
          clear g1 g2 g3 j1 j2 j3 hone hb6 hb5 hb3 ho4 ho3 hg3 ho2 hb2 hbnd
          go_wp2_with (at_builtin; go_must (refine wpList_append_F rfl (.tmp 22) (.tmp 29) 63 rfl 24 (.slice none 0 0) 24 Tryz.underlying63 info_sl rfl w.heap.size wo.heap.size _ rows.length F rfl G1.out (by omega) (by omega) _ _ _ rfl J1.out.rd Hone.out Hd1.out Hd2.out ?_; intro v' w' ho' hg'))
          have hsw' := hg'.size
          have hblow : Below w.heap.size wo w' := (Hb6.out.mono hs1).trans (grownBy_below hg' G1.out.blocks (Nat.le_refl _) (by omega))
          go_roundg (n - (x + 1))
          case measure => omega
          case rel =>
            refine ⟨x + 1, rows ++ new, by omega, rfl, by go_num, hb.trans hblow, Hr2.out, ?_⟩
            exact OwnII.join G1.out G2.out G3.out (fun i hi => (J2.out i hi).mono (by omega) (Nat.le_refl _)) J3.out hs1 (by omega) (by decide) hg' (by omega) ho'
      · go_wp2_with fail
        go_ret
        obtain rfl : x = n := by omega
        have e : allL x (f + 1) ch = rows := by rw [hr.out]; rfl
        rw [e]
        exact ⟨_, rfl, ho.out.mono hlo (Nat.le_refl _), hb⟩

set_option maxRecDepth 100000 in
theorem implAllPerms_any (N : Int) (w : World) :
    Calls Tryz.prog 37 #[.int .i64 N] w (RetII w (allPermsL N)) := by
  by_cases h : 1 ≤ N ∧ N ≤ 5
  · obtain ⟨n, rfl⟩ := Int.eq_ofNat_of_zero_le (show (0 : Int) ≤ N by omega)
    have e : allPermsL n = allL n n [] := by rw [allL_perms n (by omega) (by omega)]; simp [allPermsL, h]
    rw [e]
    have H1 : decide ((n : Int) < 1) = false := by simp; omega
    have H2 : decide ((5 : Int) < n) = false := by simp; omega
    clear e
    go_enter Tryz.func37, Tryz.ntmps37
    go_wp2_with fail
    refine (implPerms_go n (by omega) n [] _ w.heap.size w.heap.size _ (own_nil _ _ _ _) (Nat.le_refl _) (Nat.le_refl _) (by simp)).mono ?_
    rintro e w2 ⟨u, rfl, ho, hb⟩
    go_wp2_with fail
    go_ret
    exact ⟨_, rfl, ho, hb⟩
  · have e : allPermsL N = [] := by simp [allPermsL, h]
    rw [e]
    clear e
    by_cases h1 : N < 1
    · clear h
      go_enter Tryz.func37, Tryz.ntmps37
      go_wp2_with fail
      go_ret
      exact ⟨_, rfl, ownII_nil _ _ _, Below.refl _ _⟩
    · have h2 : 5 < N := by omega
      clear h
      go_enter Tryz.func37, Tryz.ntmps37
      go_wp2_with fail
      go_ret
      exact ⟨_, rfl, ownII_nil _ _ _, Below.refl _ _⟩

end Go.Proofs.YtgebjjpcgakjgaaGreat
