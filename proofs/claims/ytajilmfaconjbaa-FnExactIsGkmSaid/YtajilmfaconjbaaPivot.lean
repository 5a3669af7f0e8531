/-
  slices.IndexFunc for a number other than 0, impl.pivot, impl.scaledTo1.
-/
import Derived.Test.YtajilmfaconjbaaAddRow
import Derived.Test.YtajilmfaconjbaaMok
namespace Go.Proofs.Ytajilmfaconjbaa
set_option linter.all false
open Go.RowKit

/-- the first place with a number other than 0; -1: none -/
def pivL (xs : List Int) : Int := if xs.findIdx (fun x => x != 0) < xs.length then (xs.findIdx (fun x => x != 0) : Nat) else -1
theorem pivL_at {xs : List Int} {k : Nat} (hk : k < xs.length) (h1 : xs.getD k 0 ≠ 0) (h0 : ∀ j, j < k → xs.getD j 0 = 0) : pivL xs = k := by
  have e : xs.findIdx (fun x => x != 0) = k := by
    rw [List.findIdx_eq hk]
    refine ⟨?_, fun j hj => ?_⟩
    · rw [List.getD_eq_getElem?_getD, List.getElem?_eq_getElem hk, Option.getD_some] at h1
      simpa using h1
    · have := h0 j hj
      rw [List.getD_eq_getElem?_getD, List.getElem?_eq_getElem (by omega), Option.getD_some] at this
      simpa using this
  unfold pivL
  rw [e, if_pos hk]
theorem pivL_none {xs : List Int} (h0 : ∀ j, j < xs.length → xs.getD j 0 = 0) : pivL xs = -1 := by
  have e : xs.findIdx (fun x => x != 0) = xs.length := by
    rw [List.findIdx_eq_length]
    intro x hx
    obtain ⟨j, hj, rfl⟩ := List.mem_iff_getElem.1 hx
    have := h0 j hj
    rw [List.getD_eq_getElem?_getD, List.getElem?_eq_getElem hj, Option.getD_some] at this
    simpa using this
  unfold pivL
  rw [e, if_neg (by omega)]
theorem pivL_cases (xs : List Int) : (pivL xs = -1 ∧ ∀ j, j < xs.length → xs.getD j 0 = 0) ∨ ∃ k, pivL xs = (k : Nat) ∧ k < xs.length ∧ xs.getD k 0 ≠ 0 ∧ ∀ j, j < k → xs.getD j 0 = 0 := by
  by_cases h : ∃ k, k < xs.length ∧ xs.getD k 0 ≠ 0
  · have : ∃ k, k < xs.length ∧ xs.getD k 0 ≠ 0 ∧ ∀ j, j < k → xs.getD j 0 = 0 := by
      obtain ⟨k, hk, h1⟩ := h
      induction k using Nat.strongRecOn with
      | _ k ih =>
        by_cases h2 : ∃ j, j < k ∧ xs.getD j 0 ≠ 0
        · obtain ⟨j, hj, h3⟩ := h2
          exact ih j hj (by omega) h3
        · exact ⟨k, hk, h1, fun j hj => Classical.byContradiction fun h3 => h2 ⟨j, hj, h3⟩⟩
    obtain ⟨k, hk, h1, h2⟩ := this
    exact .inr ⟨k, pivL_at hk h1 h2, hk, h1, h2⟩
  · have h0 : ∀ j, j < xs.length → xs.getD j 0 = 0 := fun j hj => Classical.byContradiction fun h3 => h ⟨j, hj, h3⟩
    exact .inl ⟨pivL_none h0, h0⟩

set_option maxRecDepth 100000 in
set_option maxHeartbeats 1000000 in
theorem indexNz_any (v : Value) (xs : List Int) (w : World) (h : Ints w v xs) :
    Calls Try.prog 79 #[v, .func (.func 80) #[] #[]] w fun e w' => e = .returned (.int .i64 (pivL xs)) ∧ Qt w w' := by
  obtain ⟨p, cap, rfl, ⟨hx1, hx⟩, hxc⟩ := h
  unfold maxLen at hx
  go_enter Try.func79, Try.ntmps79
  go_wp2
  go_loopg [5, 8] xs.length (fun g s5 i wr => ∃ k : Nat, k ≤ xs.length ∧ g = xs.length - k ∧ i = .int .i64 k ∧ Qt w wr ∧ Hid (∀ j, j < k → xs.getD j 0 = 0))
  case atStart => exact ⟨0, Nat.zero_le _, rfl, rfl, Qt.refl _, fun j hj => absurd hj (Nat.not_lt_zero _)⟩
  case round =>
    obtain ⟨k, hk, rfl, rfl, hq, hp⟩ := hrel
    by_cases hlt : k < xs.length
    · obtain ⟨b, off, rfl, hc⟩ := hxc (by omega)
      have c1 := hq.cell (hc k hlt)
      unfold iv at c1
      generalize hy : xs.getD k 0 = y at c1
      have Hy := Lib.hid hy
      clear hxc hc hy
      by_cases e : y = 0
      · subst e
        go_wp2
        go_roundg (xs.length - (k + 1))
        case measure => omega
        case rel =>
          refine ⟨k + 1, by omega, rfl, by go_num, hq, fun j hj => ?_⟩
          by_cases e : j = k
          · subst e; exact Hy.out
          · exact hp.out j (by omega)
      · have he : (y != 0) = true := by simp [e]
        go_wp2
        go_ret
        have h1 : pivL xs = k := pivL_at hlt (by rw [Hy.out]; exact e) hp.out
        rw [h1]
        exact ⟨rfl, hq⟩
    · go_wp2
      go_ret
      obtain rfl : k = xs.length := by omega
      rw [pivL_none hp.out]
      exact ⟨rfl, hq⟩

set_option maxRecDepth 100000 in
theorem pivot_any (v : Value) (xs : List Int) (w : World) (h : Ints w v xs) :
    Calls Try.prog 68 #[v] w fun e w' => e = .returned (.int .i64 (pivL xs)) ∧ Qt w w' := by
  have hn := indexNz_any v xs w h
  generalize pivL xs = r at hn
  obtain ⟨p, cap, rfl, ⟨hx1, hx⟩, hxc⟩ := h
  have Hn := Lib.hid hn
  clear hn hxc
  go_enter Try.func68, Try.ntmps68
  go_wp2_with fail
  refine Hn.out.mono ?_
  rintro e w1 ⟨rfl, hq⟩
  go_wp2_with fail
  go_ret
  exact ⟨rfl, hq⟩

theorem inv_ex {p x : Int} (hp : primeOk p = true) (h0 : 0 < x) (h1 : x < p) : ∃ k : Int, 1 ≤ k ∧ k < p ∧ k * x % p = 1 := by
  rcases of_decide_eq_true hp with rfl | rfl | rfl | rfl
  · obtain rfl : x = 1 := by omega
    exact ⟨1, by decide⟩
  · rcases (show x = 1 ∨ x = 2 by omega) with rfl | rfl
    · exact ⟨1, by decide⟩
    · exact ⟨2, by decide⟩
  · rcases (show x = 1 ∨ x = 2 ∨ x = 3 ∨ x = 4 by omega) with rfl | rfl | rfl | rfl
    · exact ⟨1, by decide⟩
    · exact ⟨3, by decide⟩
    · exact ⟨2, by decide⟩
    · exact ⟨4, by decide⟩
  · rcases (show x = 1 ∨ x = 2 ∨ x = 3 ∨ x = 4 ∨ x = 5 ∨ x = 6 by omega) with rfl | rfl | rfl | rfl | rfl | rfl
    · exact ⟨1, by decide⟩
    · exact ⟨4, by decide⟩
    · exact ⟨5, by decide⟩
    · exact ⟨2, by decide⟩
    · exact ⟨3, by decide⟩
    · exact ⟨6, by decide⟩

/-- reads, then changes of one block -/
theorem grown_qt {w w1 w2 : World} {o : Option Nat} (hq : Qt w w1) (hg : w1.grownBy w2 o) : w.grownBy w2 o := by
  have hb := hq.below 0
  have hs := hq.size
  have hh := hq.heap
  exact ⟨hg.os.trans hb.os, hg.tape.trans hb.tape, hg.output.trans hb.output, by have := hg.size; omega, fun k hk hne => by rw [hg.block k (by omega) hne, hh]⟩

def scaleL (p k : Int) (xs : List Int) : List Int := (List.range xs.length).map fun (j : Nat) => (k * xs.getD j 0) % p
theorem scaleL_length (p k : Int) (xs : List Int) : (scaleL p k xs).length = xs.length := by simp [scaleL]
theorem scaleL_getD {p k : Int} {xs : List Int} {j : Nat} (h : j < xs.length) : (scaleL p k xs).getD j 0 = (k * xs.getD j 0) % p := by
  simp [scaleL, List.getD_eq_getElem?_getD, h]

set_option maxRecDepth 100000 in
set_option maxHeartbeats 1000000 in
theorem scaledTo1_any (v : Value) (xs : List Int) (p : Int) (K : Nat) (lo hi : Nat) (w : World) (h : OwnI 3 w lo hi v xs) (hxs : ∀ j, 0 ≤ xs.getD j 0 ∧ xs.getD j 0 < p) (hp : primeOk p = true) (hK : pivL xs = K) (hKl : K < xs.length) (hK0 : xs.getD K 0 ≠ 0) :
    Calls Try.prog 69 #[v, .int .i64 p] w fun e w' => ∃ k : Int, e = .returned (.tuple #[]) ∧ 1 ≤ k ∧ k < p ∧ k * xs.getD K 0 % p = 1 ∧ OwnI 3 w' lo hi v (scaleL p k xs) ∧ w.grownBy w' v.ownBlock := by
  obtain ⟨a, cap, rfl, hnc, hcm, _⟩ := h.fn.shape
  unfold maxLen at hcm
  obtain ⟨hp2, hp7⟩ := primeOk_range hp
  obtain ⟨x, hx⟩ : ∃ x, x = xs.getD K 0 := ⟨_, rfl⟩
  have hx0 := hxs K
  rw [← hx] at hx0
  obtain ⟨k0, hk1, hk2, hk3⟩ := inv_ex hp (show 0 < x by omega) hx0.2
  have hpiv := pivot_any _ xs w h.ints
  rw [hK] at hpiv
  have Hpiv := Lib.hid hpiv
  obtain ⟨g', rfl, hg1, hg2, hg3⟩ := h.fn.at_ (show 0 < xs.length by omega)
  have c1 : w.cell? ⟨g', K, none⟩ = some (.int .i64 x) := by rw [h.fn.cell hKl]; simp [iv, hx]
  have Hf := Lib.hid h.fn
  have Hxs := Lib.hid hxs
  have Hx := Lib.hid hx
  have Hk3 := Lib.hid hk3
  have C1 := Lib.hid c1
  clear hxs hx hp hk3 h hK hK0 hpiv c1
  go_enter Try.func69, Try.ntmps69
  go_wp2_with fail
  refine Hpiv.out.mono ?_
  rintro e w1 ⟨rfl, hq⟩
  have c1 := hq.cell C1.out
  have Hq := Lib.hid hq
  clear hq
  go_wp2_with fail
  obtain ⟨k0n, rfl⟩ := Int.eq_ofNat_of_zero_le (show (0 : Int) ≤ k0 by omega)
  go_loopg [5] (k0n - 1) (fun g s5 wr => ∃ k : Nat, 1 ≤ k ∧ k ≤ k0n ∧ g = k0n - k ∧ s5 = .int .i64 k ∧ wr = w1)
  case atStart => exact ⟨1, Nat.le_refl _, by omega, rfl, rfl, rfl⟩
  case round =>
    obtain ⟨k, hka, hkb, rfl, rfl, rfl⟩ := hrel
    have hm0 : 0 ≤ (k : Int) * x := Int.mul_nonneg (by omega) (by omega)
    have hm1 : (k : Int) * x ≤ 7 * 7 := Int.mul_le_mul (by omega) (by omega) (by omega) (by omega)
    by_cases he : (k : Int) * x % p = 1
    · have he2 : ((k : Int) * x % p != 1) = false := by simpa using he
      have hp0 : ¬ p = 0 := by omega
      have e1 : Int.tmod ((k : Int) * x) p = (k : Int) * x % p := Int.tmod_eq_emod_of_nonneg hm0
      have b5 : 0 ≤ (k : Int) * x % p := Int.emod_nonneg _ (by omega)
      have b6 : (k : Int) * x % p < p := Int.emod_lt_of_pos _ (by omega)
      have He := Lib.hid he
      have H1 := Lib.hid (Hf.out.below (Hq.out.below _))
      clear he
      go_wp2_with fail
      clear e1 b5 b6 he2 hm0 hm1 c1
      obtain ⟨wo, rfl⟩ : ∃ x : World, x = wr := ⟨_, rfl⟩
      go_loopg [6, 22] xs.length (fun g s6 i wr => ∃ j : Nat, j ≤ xs.length ∧ g = xs.length - j ∧ i = .int .i64 j ∧ World.grownBy wo wr (Value.ownBlock (.slice (some ⟨g', 0, none⟩) xs.length cap)) ∧
        OwnF wr lo hi 3 (.slice (some ⟨g', 0, none⟩) xs.length cap) xs.length (fun t => if t < j then .int .i64 (((k : Int) * xs.getD t 0) % p) else iv xs t))
      case atStart => exact ⟨0, Nat.zero_le _, rfl, rfl, World.grownBy.refl _ _, H1.out.congr fun t _ => by simp⟩
      case round =>
        obtain ⟨j, hj, rfl, rfl, hg, hr⟩ := hrel
        by_cases hlt : j < xs.length
        · obtain ⟨y, hy⟩ : ∃ y, y = xs.getD j 0 := ⟨_, rfl⟩
          have c1 : wr.cell? ⟨g', j, none⟩ = some (.int .i64 y) := by rw [hr.cell hlt]; simp [iv, hy]
          have c3 := hr.frozen j
          have sy := Hxs.out j
          rw [← hy] at sy
          have hm0 : 0 ≤ (k : Int) * y := Int.mul_nonneg (by omega) sy.1
          have hm1 : (k : Int) * y ≤ 7 * 7 := Int.mul_le_mul (by omega) (by omega) (by omega) (by omega)
          have e1 : Int.tmod ((k : Int) * y) p = (k : Int) * y % p := Int.tmod_eq_emod_of_nonneg hm0
          have b5 : 0 ≤ (k : Int) * y % p := Int.emod_nonneg _ (by omega)
          have b6 : (k : Int) * y % p < p := Int.emod_lt_of_pos _ (by omega)
          have Hy := Lib.hid hy
          have Hg := Lib.hid hg
          have Hr := Lib.hid hr
          clear hy hg hr
          go_wp2_with fail
          go_roundg (xs.length - (j + 1))
          case measure => omega
          case rel =>
            refine ⟨j + 1, by omega, rfl, by go_num, ?_, OwnF.congr (f := fun t => if t = j then .int .i64 (((k : Int) * y) % p) else if t < j then .int .i64 (((k : Int) * xs.getD t 0) % p) else iv xs t) ?_ fun t ht => ?_⟩
            · exact ⟨Hg.out.os, Hg.out.tape, Hg.out.output, by simpa [World.setCell] using Hg.out.size, fun i hi hne => (Below.heap_setCell _ _ _ _ (by simpa [Value.ownBlock] using hne)).trans (Hg.out.block i hi hne)⟩
            · exact Hr.out.set j _
            · by_cases e : t = j
              · subst e
                simp only [if_true, show t < t + 1 by omega]
                rw [Hy.out]
              · by_cases e2 : t < j
                · simp only [e, if_false, e2, if_true, show t < j + 1 by omega]
                · simp only [e, if_false, e2, show ¬ t < j + 1 by omega]
        · go_wp2_with fail
          go_end0
          refine ⟨k, rfl, by omega, by omega, by rw [← Hx.out]; exact He.out, OwnF.ints ?_, ?_⟩
          · obtain rfl : j = xs.length := by omega
            rw [scaleL_length]
            exact hr.congr fun t ht => by simp only [ht, if_true]; rw [iv, scaleL_getD ht]
          · exact grown_qt Hq.out hg
    · have hlt : k < k0n := by
        rcases Nat.lt_or_ge k k0n with h1 | h1
        · exact h1
        · exact absurd (by rw [show k = k0n by omega]; exact Hk3.out) he
      have he2 : ((k : Int) * x % p != 1) = true := by simpa using he
      have hp0 : ¬ p = 0 := by omega
      have e1 : Int.tmod ((k : Int) * x) p = (k : Int) * x % p := Int.tmod_eq_emod_of_nonneg hm0
      have b5 : 0 ≤ (k : Int) * x % p := Int.emod_nonneg _ (by omega)
      have b6 : (k : Int) * x % p < p := Int.emod_lt_of_pos _ (by omega)
      clear he
      go_wp2_with fail
      go_roundg (k0n - (k + 1))
      case measure => omega
      case rel => exact ⟨k + 1, by omega, by omega, rfl, by go_num, rfl⟩

end Go.Proofs.Ytajilmfaconjbaa
