/-
  FlagsWith: all flags in normal form with a permutation.
  The code and the length of a permutation, in the program.
  The law FnFlagsCounted, on lists: plain.
-/
import Derived.Test.YtoodgbflaaabmaaJ14
import Derived.Test.YtoodgbflaaabmaaJ2
import Derived.Test.YtoodgbflaaabmaaJ9
import Derived.Test.YtoodgbflaaabmaaJ13
namespace Go.Proofs.Ytoodgbflaaabmaa
set_option linter.all false
open Go.RowKit

theorem flat_lt3 {n C i c : Nat} (hi : i < n) (hc : c < C) : i * C + c < n * C := by
  have : (i + 1) * C ≤ n * C := Nat.mul_le_mul_right C hi
  rw [Nat.succ_mul] at this
  omega
/-- the first numbers of a list, as a slice -/
theorem ints_takeP {w : World} {p : Option Addr} {cap : Nat} {xs : List Int} (h : Ints w (.slice p xs.length cap) xs) {i : Nat} (hi : i ≤ xs.length) : Ints w (.slice p i cap) (xs.take i) := by
  obtain ⟨q, c, e, ⟨h1, h2⟩, h3⟩ := h
  injection e with e1 e2 e3
  subst e1 e3
  have hl : (xs.take i).length = i := by rw [List.length_take]; omega
  refine ⟨p, cap, by rw [hl], ⟨by omega, h2⟩, fun h0 => ?_⟩
  obtain ⟨b, off, hp, hx⟩ := h3 (by omega)
  refine ⟨b, off, hp, fun j hj => ?_⟩
  rw [hx j (by omega)]
  unfold iv
  rw [List.getD_eq_getElem?_getD, List.getD_eq_getElem?_getD, List.getElem?_take_of_lt (by omega)]

/-- the free places of row i, up to column j -/
def flG (xs : List Int) (i j : Nat) : List Nat := ((List.range j).filter fun (c : Nat) => decide (xs.getD i 0 < (c : Int)) && !decide ((c : Int) ∈ xs.take i)).map fun (c : Nat) => i * xs.length + c
def flF (xs : List Int) (i : Nat) : List Nat := (List.range i).flatMap fun r => flG xs r xs.length
theorem flG_start (xs : List Int) (i m : Nat) (h : xs.getD i 0 = (m : Int)) : flG xs i (m + 1) = [] := by
  unfold flG
  rw [List.filter_eq_nil_iff.2 ?_]; rfl
  intro c hc
  have := List.mem_range.1 hc
  rw [h]
  simp; intro h2; omega
theorem flG_no (xs : List Int) (i j : Nat) (h2 : (j : Int) ∈ xs.take i) : flG xs i (j + 1) = flG xs i j := by
  unfold flG; rw [List.range_succ, List.filter_append]; simp [h2]
theorem flG_yes (xs : List Int) (i j : Nat) (h : xs.getD i 0 < (j : Int)) (h2 : ¬ (j : Int) ∈ xs.take i) : flG xs i (j + 1) = flG xs i j ++ [i * xs.length + j] := by
  unfold flG; rw [List.range_succ, List.filter_append]
  have e : List.filter (fun (c : Nat) => decide (xs.getD i 0 < (c : Int)) && !decide ((c : Int) ∈ xs.take i)) [j] = [j] := by
    rw [List.filter_cons, if_pos (by rw [decide_eq_true h, decide_eq_false h2]; rfl)]; rfl
  rw [e]; simp
theorem flG_len (xs : List Int) (i j : Nat) : (flG xs i j).length ≤ j := by
  unfold flG
  rw [List.length_map]
  exact Nat.le_trans (List.length_filter_le _ _) (by simp)
theorem flF_succ (xs : List Int) (i : Nat) : flF xs (i + 1) = flF xs i ++ flG xs i xs.length := flatMap_snoc _ _
theorem flF_len (xs : List Int) (h7 : xs.length ≤ 7) (i : Nat) : (flF xs i).length ≤ i * 7 := flatMap_len _ 7 (fun r => Nat.le_trans (flG_len xs r xs.length) h7) i
theorem flG_mem {xs : List Int} {i j t : Nat} (hi : i < xs.length) (hj : j ≤ xs.length) (h : t ∈ flG xs i j) : t < xs.length * xs.length := by
  unfold flG at h
  obtain ⟨c, hc, rfl⟩ := List.mem_map.1 h
  have := List.mem_range.1 (List.mem_filter.1 hc).1
  exact flat_lt3 hi (by omega)
theorem flF_mem {xs : List Int} {t : Nat} (h : t ∈ flF xs xs.length) : t < xs.length * xs.length := by
  unfold flF at h
  obtain ⟨r, hr, ht⟩ := List.mem_flatMap.1 h
  exact flG_mem (List.mem_range.1 hr) (Nat.le_refl _) ht

/-- matrices and a bool, as a call returns them -/
def RetMsB (w : World) (r : List Mx × Bool) (e : Ending) (w' : World) : Prop := ∃ v, e = .returned (.tuple #[v, .bool r.2]) ∧ OwnMs w' w.heap.size w'.heap.size v r.1 ∧ Below w.heap.size w w'
/-- all matrices with numbers at free places, if they are not too many -/
def fillB (p : Int) (R C : Int) (D : List Int) (free : List Nat) : List Mx × Bool := if p.toNat ^ free.length ≤ 400 then (fillMs p.toNat R C D free (p.toNat ^ free.length), true) else ([], false)
def flMs (p : Int) (xs : List Int) : List Mx × Bool := if primeOk p && permOk xs then fillB p xs.length xs.length (permRows xs).flatten (flF xs xs.length) else ([], false)
theorem flMs_no {p : Int} {xs : List Int} (h : primeOk p = false ∨ permOk xs = false) : flMs p xs = ([], false) := by
  unfold flMs; rcases h with h | h <;> simp [h]
theorem flMs_yes {p : Int} {xs : List Int} (h : primeOk p = true) (h2 : permOk xs = true) : flMs p xs = fillB p xs.length xs.length (permRows xs).flatten (flF xs xs.length) := by
  unfold flMs; simp [h, h2]
theorem preM_bound (ms : List Mx) (h : ∀ m ∈ ms, m.D.length ≤ 49) : preM ms ms.length ≤ ms.length * 52 := by
  unfold preM
  rw [List.take_of_length_le (Nat.le_refl _)]
  induction ms with
  | nil => simp
  | cons m ms ih =>
    have h1 := h m (List.mem_cons_self)
    have h2 := ih fun x hx => h x (List.mem_cons_of_mem _ hx)
    simp only [List.map_cons, List.sum_cons, List.length_cons]
    omega
theorem fillB_len (p R C : Int) (D : List Int) (free : List Nat) (hD : D.length ≤ 49) : preM (fillB p R C D free).1 (fillB p R C D free).1.length ≤ 1000000 := by
  unfold fillB
  split
  · rename_i h
    have h1 := preM_bound (fillMs p.toNat R C D free (p.toNat ^ free.length)) fun m hm => by
      obtain ⟨x, _, rfl⟩ := List.mem_map.1 hm
      show (fillSt p.toNat D free x free.length).1.length ≤ 49
      rw [fillSt_length]; exact hD
    dsimp only
    rw [fillMs_length] at h1 ⊢
    omega
  · simp [preM]
theorem flMs_len (p : Int) (xs : List Int) : preM (flMs p xs).1 (flMs p xs).1.length ≤ 1000000 := by
  unfold flMs
  split
  · rename_i h
    simp only [Bool.and_eq_true] at h
    obtain ⟨_, h7, _⟩ := of_decide_eq_true h.2
    exact fillB_len _ _ _ _ _ (by rw [permRows_flat_length]; exact Nat.mul_le_mul h7 h7)
  · simp [preM]
theorem matricesWith_any (p : Int) (R C : Int) (d fr : Value) (D : List Int) (free : List Nat) (w : World) (hp : primeOk p = true) (hd : Ints w d D) (hf : Ints w fr (nats free)) (hb : ∀ t ∈ free, t < D.length) (hD : D.length ≤ 49) (hl : free.length ≤ 49) :
    Calls Try.prog 37 #[.agg #[.int .i64 p, .int .i64 R, .int .i64 C, d], fr] w (RetMsB w (fillB p R C D free)) := by
  obtain ⟨h2, h7⟩ := primeOk_range hp
  obtain ⟨q, rfl⟩ := Int.eq_ofNat_of_zero_le (show 0 ≤ p by omega)
  unfold fillB
  rw [Int.toNat_natCast]
  by_cases h : q ^ free.length ≤ 400
  · rw [if_pos h]
    exact (matricesWith_yes q R C d fr D free w hd hf (by omega) (by omega) hb hD hl h).mono fun e w' ⟨v, h1, h2, h3⟩ => ⟨v, h1, h2, h3⟩
  · rw [if_neg h]
    exact (matricesWith_no q R C d fr D free w hf (by omega) (by omega) hl (by omega)).mono fun e w' ⟨h1, h2⟩ => ⟨_, h1, OwnMs.nil _ _ _, h2⟩

set_option maxRecDepth 100000 in
set_option maxHeartbeats 4000000 in
theorem implFlagsWith_any (p : Int) (v : Value) (xs : List Int) (w : World) (h : Ints w v xs) :
    Calls Try.prog 10 #[.int .i64 p, v] w (RetMsB w (flMs p xs)) := by
  have Hh := Lib.hid h
  cases hp : primeOk p with
  | false =>
    rw [flMs_no (.inl hp)]
    have Hp := Lib.hid hp
    clear hp h
    go_enter Try.func10, Try.ntmps10
    go_wp2_with (go_at_call 34; refine (isPrime_b _ _ Hp.out _).mono ?_; rintro e w' ⟨rfl, rfl⟩)
    go_ret2
    exact ⟨_, rfl, OwnMs.nil _ _ _, Below.refl _ _⟩
  | true =>
    have Hp := Lib.hid hp
    obtain ⟨hp2, hp7⟩ := primeOk_range hp
    obtain ⟨pn, rfl⟩ := Int.eq_ofNat_of_zero_le (show 0 ≤ p by omega)
    cases hx : permOk xs with
    | false =>
      rw [flMs_no (.inr hx)]
      have Hx := Lib.hid hx
      clear hp hx h
      go_enter Try.func10, Try.ntmps10
      go_wp2_with (first
        | (go_at_call 34; refine (isPrime_b _ _ Hp.out _).mono ?_; rintro e w' ⟨rfl, rfl⟩)
        | (go_at_call 35; refine (implIsPerm_b _ xs _ Hx.out _ Hh.out).mono ?_; rintro e w1 ⟨rfl, hb⟩))
      go_ret2
      exact ⟨_, rfl, OwnMs.nil _ _ _, hb⟩
    | true =>
      rw [flMs_yes hp hx]
      have Hx := Lib.hid hx
      obtain ⟨hl1, hl7, hr, _⟩ := of_decide_eq_true hx
      have Hr := Lib.hid hr
      obtain ⟨q, cap, rfl, ⟨hx1, hx2⟩, hxc⟩ := h
      have Hxc := Lib.hid hxc
      unfold maxLen at hx2
      clear hp hx hr hxc
      go_enter Try.func10, Try.ntmps10
      go_wp2_with (first
        | (go_at_call 34; refine (isPrime_b _ _ Hp.out _).mono ?_; rintro e w' ⟨rfl, rfl⟩)
        | (go_at_call 35; refine (implIsPerm_b _ xs _ Hx.out _ Hh.out).mono ?_; rintro e w1 ⟨rfl, hb⟩))
      have Hb := Lib.hid hb
      have hsw := hb.size
      obtain ⟨b0, off, rfl, hc0⟩ := Hxc.out (by omega)
      have Hc0 := Lib.hid hc0
      clear hb hc0 Hxc
      go_loopg [6, 21] xs.length (fun gg s6 s21 wr => ∃ i : Nat, i ≤ xs.length ∧ gg = xs.length - i ∧ s21 = .int .i64 i ∧ Below w1.heap.size w1 wr ∧ Hid (OwnI 3 wr w1.heap.size wr.heap.size s6 (nats (flF xs i))))
      case atStart => exact ⟨0, Nat.zero_le _, rfl, rfl, below_alloc _ _, (OwnF.made0 w1 3 (iv [])).ints.mono (Nat.le_refl _) (by simp)⟩
      case round =>
        obtain ⟨i, hi, rfl, rfl, hbl, hO⟩ := hrel
        obtain ⟨wo, rfl⟩ : ∃ x : World, x = wr := ⟨_, rfl⟩
        have HO := Lib.hid hO.out
        clear hO
        by_cases hlt : i < xs.length
        · have hlt2 : (i : Int) < (xs.length : Int) := by omega
          have hlt3 : (0 : Int) ≤ (i : Int) := by omega
          have hx0 := Hr.out _ (getD_mem hlt)
          obtain ⟨m, hm⟩ := Int.eq_ofNat_of_zero_le hx0.1
          have hml : m < xs.length := by omega
          have c1 : wo.cell? ⟨b0, off + i, none⟩ = some (.int .i64 (m : Int)) := by
            have h5 := Hc0.out i hlt
            rw [(Hb.out.trans (hbl.mono hsw)).cell (p := ⟨b0, off + i, none⟩) (World.block_lt_of_cell? _ _ h5), h5]; simp only [iv, hm]
          have Hm := Lib.hid hm
          have HG0 := Lib.hid (flG_start xs i m hm)
          clear hx0 hm
          go_wp2_with fail
          clear c1
          go_loopg [6, 9] (xs.length - (m + 1)) (fun gg s6 s9 wr => ∃ j : Nat, m < j ∧ j ≤ xs.length ∧ gg = xs.length - j ∧ s9 = .int .i64 (j : Int) ∧ Below w1.heap.size w1 wr ∧ Hid (OwnI 3 wr w1.heap.size wr.heap.size s6 (nats (flF xs i ++ flG xs i j))))
          case atStart => exact ⟨m + 1, by omega, by omega, rfl, rfl, hbl, by show OwnI _ _ _ _ _ _; rw [HG0.out, List.append_nil]; exact HO.out⟩
          case round =>
            obtain ⟨j, hmj, hj, rfl, rfl, hbi, hO⟩ := hrel
            have HO := Lib.hid hO.out
            clear hO
            by_cases hjl : j < xs.length
            · have hjl2 : (j : Int) < (xs.length : Int) := by omega
              have hI : Ints wr (.slice (some ⟨b0, off, none⟩) i cap) (xs.take i) := ints_takeP (Hh.out.below (Hb.out.trans (hbi.mono hsw))) (by omega)
              have HI := Lib.hid hI
              have hcap : (i : Int) ≤ (cap : Int) := by omega
              clear hI
              cases hd : decide ((j : Int) ∈ xs.take i) with
              | true =>
                have HGn := Lib.hid (flG_no xs i j (of_decide_eq_true hd))
                have Hd := Lib.hid hd
                clear hd
                go_wp2_with fail
                refine (contains_any _ (xs.take i) (j : Int) _ HI.out).mono ?_
                rintro e w2 ⟨rfl, hq⟩
                rw [Hd.out]
                have hb2 := hq.below wr.heap.size
                clear hq
                go_wp2_with fail
                go_roundg (xs.length - (j + 1))
                case measure => omega
                case rel =>
                  refine ⟨j + 1, by omega, by omega, rfl, by go_num, hbi.trans (hb2.mono hbi.size), ?_⟩
                  show OwnI _ _ _ _ _ _
                  rw [HGn.out]
                  exact (HO.out.below hb2).mono (Nat.le_refl _) hb2.size
              | false =>
                have HGy := Lib.hid (flG_yes xs i j (by rw [Hm.out]; exact Int.ofNat_lt.2 hmj) (of_decide_eq_false hd))
                have Hd := Lib.hid hd
                clear hd
                go_wp2_with fail
                refine (contains_any _ (xs.take i) (j : Int) _ HI.out).mono ?_
                rintro e w2 ⟨rfl, hq⟩
                rw [Hd.out]
                have hb2 := hq.below wr.heap.size
                have hs2 := hq.size
                clear hq
                have hnn : i * xs.length ≤ 7 * 7 := Nat.mul_le_mul (by omega) hl7
                have hFl := flF_len xs hl7 i
                have hGl := flG_len xs i j
                have hLl : (flF xs i ++ flG xs i j).length ≤ 60 := by rw [List.length_append]; omega
                obtain ⟨L, hL⟩ : ∃ L, L = flF xs i ++ flG xs i j := ⟨_, rfl⟩
                obtain ⟨K, hK, H3, H4⟩ := mul_hid i xs.length (by omega)
                have hKl : K ≤ 49 := by omega
                have Hol := HO.out.below hb2
                rw [← hL] at Hol hLl
                have HL := Lib.hid hL
                have HK := Lib.hid hK
                have hol := Lib.hid Hol
                have Hl1 := Lib.hid (show (nats L).length + 1 ≤ maxLen by rw [nats_length]; unfold maxLen; omega)
                have Hl2 := Lib.hid (show ((nats L).length + 1) * 8 ≤ 140737488355328 by rw [nats_length]; omega)
                have Hbb := Lib.hid (hbi.trans (hb2.mono hbi.size))
                clear hK hnn hFl hGl hLl hL Hol
                have Hk1 := Lib.hid (show wrap64 ((K : Int) + (j : Int)) = (K : Int) + (j : Int) from w64 (by omega) (by omega))
                have Hk2 := Lib.hid (show IntKind.i64.wrap ((K : Int) + (j : Int)) = (K : Int) + (j : Int) from k64 (by omega) (by omega))
                have Hs1 := Lib.hid (show w1.heap.size ≤ (w2.alloc (.cells #[.int .i64 ((K : Int) + (j : Int))] 3)).heap.size by have := Hbb.out.size; rw [size_alloc]; omega)
                have Hs2 := Lib.hid (show wr.heap.size ≤ (w2.alloc (.cells #[.int .i64 ((K : Int) + (j : Int))] 3)).heap.size by rw [size_alloc]; omega)
                have h3 := H3.out
                have h4 := H4.out
                have h5 := Hk1.out
                have h6 := Hk2.out
                go_wp2_with (at_builtin; go_must (refine wpList_append_F rfl (.tmp 40) (.tmp 47) 24 rfl 3 (.int .i64 0) 8 Try.underlying24 info_int rfl w1.heap.size wr.heap.size _ (nats L).length _ rfl (hol.out.fn.below (below_alloc _ _)) Hs1.out Hs2.out _ _ _ rfl (rd_one _ _ _ hs2.symm) (fun j _ => rfl) Hl1.out Hl2.out ?_; clear h3 h4 h5 h6; intro v' w' ho' hg'))
                have hol2 := OwnI.snoc1 ho'
                have hgb := grownBy_below hg' (OwnF.blocks hol.out.fn) (Nat.le_refl _) Hs1.out
                have hsz := hg'.size
                simp only [size_alloc] at hsz
                go_roundg (xs.length - (j + 1))
                case measure => omega
                case rel =>
                  refine ⟨j + 1, by omega, by omega, rfl, by go_num, (Hbb.out.trans ((below_alloc _ _).mono Hbb.out.size)).trans hgb, ?_⟩
                  show OwnI _ _ _ _ _ _
                  rw [HGy.out, ← List.append_assoc, ← HL.out, nats_snoc, ← HK.out]
                  exact hol2
            · obtain rfl : j = xs.length := by omega
              have hjl2 : ¬ (xs.length : Int) < (xs.length : Int) := by omega
              go_wp2_with fail
              go_roundg (xs.length - (i + 1))
              case measure => omega
              case rel => exact ⟨i + 1, by omega, rfl, by go_num, hbi, by show OwnI _ _ _ _ _ _; rw [flF_succ]; exact HO.out⟩
        · obtain rfl : i = xs.length := by omega
          have hlt2 : ¬ (xs.length : Int) < (xs.length : Int) := by omega
          have hFl := flF_len xs hl7 xs.length
          have hFl2 : (flF xs xs.length).length ≤ 49 := by omega
          have hDl : (permRows xs).flatten.length = xs.length * xs.length := permRows_flat_length xs
          have hD49 : (permRows xs).flatten.length ≤ 49 := by rw [hDl]; exact Nat.mul_le_mul hl7 hl7
          have HD49 := Lib.hid hD49
          have Hmem := Lib.hid (show ∀ t ∈ flF xs xs.length, t < (permRows xs).flatten.length by intro t ht; rw [hDl]; exact flF_mem ht)
          have HI := Lib.hid (Hh.out.below (Hb.out.trans (hbl.mono hsw)))
          have Hpm := Lib.hid (permMx_yes Hp.out Hx.out)
          have Hbl := Lib.hid (Hb.out.trans (hbl.mono hsw))
          have HF2 := Lib.hid hFl2
          obtain ⟨D, hD⟩ : ∃ D, D = (permRows xs).flatten := ⟨_, rfl⟩
          obtain ⟨L, hL⟩ : ∃ L, L = flF xs xs.length := ⟨_, rfl⟩
          rw [← hD] at HD49 Hmem Hpm
          rw [← hL] at HF2 Hmem HO
          have HDe := Lib.hid hD
          have HLe := Lib.hid hL
          obtain ⟨pv, kv, rfl, _, _⟩ := HO.out.shape
          rw [nats_length] at HO ⊢
          clear hDl hD49 hFl hFl2 hD hL
          go_wp2_with fail

          refine (implPermMatrix_any (pn : Int) _ xs _ HI.out).mono ?_
          rw [Hpm.out]
          rintro e w2 ⟨u, rfl, ho, hb2⟩
          dsimp only at ho ⊢
          have Hoi := Lib.hid ho.ints
          obtain ⟨pd, kd, rfl, _, _⟩ := ho.shape
          have HO2 := Lib.hid (HO.out.below hb2)
          have Hb2 := Lib.hid hb2
          clear ho hb2
          go_wp2_with fail
          refine (matricesWith_any (pn : Int) _ _ _ _ _ L _ Hp.out Hoi.out HO2.out.ints Hmem.out HD49.out HF2.out).mono ?_
          rintro e w3 ⟨vr, rfl, hv, hb3⟩
          have hs1 := Hbl.out.size
          have hs2 := Hb2.out.size
          obtain ⟨pr, kr, rfl, _, _⟩ := hv.shape
          have Hv := Lib.hid hv
          clear hv
          go_wp2_with fail
          go_ret2
          have e1 := HDe.out
          have e2 := HLe.out
          subst e1 e2
          exact ⟨_, rfl, Hv.out.mono (by omega) (Nat.le_refl _), (Hbl.out.trans (Hb2.out.mono hs1)).trans (hb3.mono (by omega))⟩

end Go.Proofs.Ytoodgbflaaabmaa

namespace Go.Proofs.Ytoodgbflaaabmaa
set_option linter.all false
open Go.RowKit

/-- how many of the t numbers behind place i are less than the one there -/
def cdN (xs : List Int) (i t : Nat) : Nat := ((List.range t).filter fun (s : Nat) => decide (xs.getD (i + 1 + s) 0 < xs.getD i 0)).length
theorem cdN_zero (xs : List Int) (i : Nat) : cdN xs i 0 = 0 := rfl
theorem cdN_yes {xs : List Int} {i t : Nat} (h : xs.getD (i + 1 + t) 0 < xs.getD i 0) : cdN xs i (t + 1) = cdN xs i t + 1 := by
  unfold cdN
  rw [List.range_succ, List.filter_append, List.length_append]
  have e : List.filter (fun (s : Nat) => decide (xs.getD (i + 1 + s) 0 < xs.getD i 0)) [t] = [t] := by
    rw [List.filter_cons, if_pos (decide_eq_true h)]; rfl
  rw [e]; rfl
theorem cdN_no {xs : List Int} {i t : Nat} (h : ¬ xs.getD (i + 1 + t) 0 < xs.getD i 0) : cdN xs i (t + 1) = cdN xs i t := by
  unfold cdN
  rw [List.range_succ, List.filter_append, List.length_append]
  have e : List.filter (fun (s : Nat) => decide (xs.getD (i + 1 + s) 0 < xs.getD i 0)) [t] = [] := by
    rw [List.filter_cons, if_neg (by rw [decide_eq_false h]; simp)]; rfl
  rw [e]; rfl
theorem cdN_le (xs : List Int) (i t : Nat) : cdN xs i t ≤ t := by
  unfold cdN
  exact Nat.le_trans (List.length_filter_le _ _) (by simp)
/-- the code -/
def codeN (xs : List Int) (i : Nat) : Nat := cdN xs i (xs.length - (i + 1))
def codeL (xs : List Int) : List Int := (List.range xs.length).map fun i => (codeN xs i : Int)
theorem codeL_length (xs : List Int) : (codeL xs).length = xs.length := by simp [codeL]
theorem codeL_getD {xs : List Int} {i : Nat} (h : i < xs.length) : (codeL xs).getD i 0 = (codeN xs i : Int) := by simp [codeL, List.getD_eq_getElem?_getD, h]
/-- the length, place by place -/
def lenTo (xs : List Int) : Nat → Nat
  | 0 => 0
  | k + 1 => lenTo xs k + codeN xs k
def lenP (xs : List Int) : Nat := lenTo xs xs.length
theorem lenTo_le (xs : List Int) : ∀ k, lenTo xs k ≤ k * xs.length
  | 0 => by simp [lenTo]
  | k + 1 => by
    have := lenTo_le xs k
    have h2 := cdN_le xs k (xs.length - (k + 1))
    unfold lenTo codeN
    rw [Nat.succ_mul]; omega

set_option maxRecDepth 100000 in
set_option maxHeartbeats 2000000 in
theorem implCode_any (v : Value) (xs : List Int) (w : World) (h : Ints w v xs) (hp : permOk xs = true) :
    Calls Try.prog 39 #[v] w (RetI w (codeL xs)) := by
  obtain ⟨hl1, hl7, _, _⟩ := of_decide_eq_true hp
  have Hp := Lib.hid hp
  have Hh := Lib.hid h
  obtain ⟨p, cap, rfl, ⟨hx1, hx⟩, hxc⟩ := h
  obtain ⟨b, off, rfl, hc⟩ := hxc (by omega)
  unfold maxLen at hx
  have Hc := Lib.hid hc
  have hmk := run_make_row' (P := Try.prog) 24 3 (.int .i64 0) 8 Try.underlying24 info_int rfl .i64 .i64 xs.length (by omega) (by omega)
  have Hmk := Lib.hid hmk
  clear hp hxc hc hmk
  go_enter Try.func39, Try.ntmps39
  go_wp2_with fail
  refine (implIsPerm_b _ xs _ Hp.out _ Hh.out).mono ?_
  rintro e w1 ⟨rfl, hb⟩
  have Hb1 := Lib.hid hb
  have hmk := Hmk.out
  clear hb
  go_wp2_with fail
  clear hmk
  obtain ⟨w2, hw2⟩ : ∃ x, x = w1.alloc (.cells (madeCells #[Value.int .i64 0] xs.length) 3) := ⟨_, rfl⟩
  have Hbl := Lib.hid (show Below w.heap.size w w2 by rw [hw2]; exact Hb1.out.trans ((below_alloc w1 _).mono Hb1.out.size))
  have Hs := Lib.hid (show w.heap.size ≤ w1.heap.size ∧ w2.heap.size = w1.heap.size + 1 from ⟨Hb1.out.size, by rw [hw2, size_alloc]⟩)
  have hO : OwnF w2 w1.heap.size (w1.heap.size + 1) 3 (.slice (some ⟨w1.heap.size, 0, none⟩) xs.length xs.length) xs.length (fun _ => .int .i64 0) := by
    rw [hw2]
    have := World.rowIs_alloc w1 (madeCells #[Value.int .i64 0] xs.length) 3 (fun _ => .int .i64 0) (fun k hk => by
      simp [madeCells] at hk
      simp [madeCells, hk, Nat.mod_one])
    exact OwnF.mk' (F := fun _ => .int .i64 0) (by simpa [madeCells] using this) (Nat.le_refl _) (by omega) (Nat.le_refl _) (by unfold maxLen; omega) fun j hj => rfl
  have HO := Lib.hid hO
  rw [← hw2]
  clear hw2 hO
  go_loopg [15] xs.length (fun gg s15 wr => ∃ i : Nat, i ≤ xs.length ∧ gg = xs.length - i ∧ s15 = .int .i64 i ∧ Frm w1.heap.size (w1.heap.size + 1) w2 wr ∧ Hid (OwnF wr w1.heap.size (w1.heap.size + 1) 3 (.slice (some ⟨w1.heap.size, 0, none⟩) xs.length xs.length) xs.length (fun j => .int .i64 (if j < i then (codeN xs j : Int) else 0))))
  case atStart => exact ⟨0, Nat.zero_le _, rfl, rfl, Frm.refl _ _ _, HO.out.congr fun j hj => by simp⟩
  case round =>
    obtain ⟨i, hi, rfl, rfl, hF, hO⟩ := hrel
    obtain ⟨wo, rfl⟩ : ∃ x : World, x = wr := ⟨_, rfl⟩
    have HF := Lib.hid hF
    have HO1 := Lib.hid hO.out
    clear hO hF
    have Hbw := fun (W : World) (hf : Frm w1.heap.size (w1.heap.size + 1) w2 W) => show Below w.heap.size w W from Hbl.out.trans (hf.below Hs.out.1 Hbl.out.size)
    have HBw := Lib.hid Hbw
    clear Hbw
    by_cases hlt : i < xs.length
    · have hlt2 : (i : Int) < (xs.length : Int) := by omega
      have hlt3 : (0 : Int) ≤ (i : Int) := by omega
      have hlt4 : (i : Int) + 1 ≤ (xs.length : Int) := by omega
      have hlt5 : (0 : Int) ≤ (i : Int) + 1 := by omega
      have hlt6 : ((i : Int) + 1).toNat = i + 1 := by omega
      by_cases hcap : cap = i + 1
      · have hn : xs.length - (i + 1) = 0 := by omega
        have Hcap := Lib.hid hcap
        have hcap3 : cap - (i + 1) = 0 := by omega
        have hcap4 : (i : Int) + 1 ≤ (cap : Int) := by omega
        clear hcap
        go_wp2_with fail
        go_loopg [23] (xs.length - (i + 1)) (fun gg s23 wr => ∃ t : Nat, t ≤ xs.length - (i + 1) ∧ gg = xs.length - (i + 1) - t ∧ s23 = .int .i64 t ∧ Frm w1.heap.size (w1.heap.size + 1) w2 wr ∧ Hid (OwnF wr w1.heap.size (w1.heap.size + 1) 3 (.slice (some ⟨w1.heap.size, 0, none⟩) xs.length xs.length) xs.length (fun j => .int .i64 (if j < i then (codeN xs j : Int) else if j = i then (cdN xs i t : Int) else 0))))
        case atStart => exact ⟨0, Nat.zero_le _, rfl, rfl, HF.out, HO1.out.congr fun j hj => by
          by_cases h1 : j < i
          · simp [h1]
          · simp [h1, cdN_zero]⟩
        case round =>
          obtain ⟨t, ht, rfl, rfl, hF, hO⟩ := hrel
          have HF2 := Lib.hid hF
          have HO2 := Lib.hid hO.out
          clear hF hO
          by_cases htl : t < xs.length - (i + 1)
          · exact absurd htl (by omega)
          · obtain rfl : t = xs.length - (i + 1) := by omega
            have htl2 : ¬ ((xs.length - (i + 1) : Nat) : Int) < ((xs.length - (i + 1) : Nat) : Int) := by omega
            have HO3 := Lib.hid (show OwnF wr w1.heap.size (w1.heap.size + 1) 3 (.slice (some ⟨w1.heap.size, 0, none⟩) xs.length xs.length) xs.length (fun j => .int .i64 (if j < i + 1 then (codeN xs j : Int) else 0)) from HO2.out.congr fun j hj => by
              by_cases h1 : j < i
              · rw [if_pos h1, if_pos (by omega)]
              · by_cases h2 : j = i
                · subst h2; rw [if_neg h1, if_pos rfl, if_pos (by omega)]; rfl
                · rw [if_neg h1, if_neg h2, if_neg (by omega)])
            go_wp2_with fail
            go_roundg (xs.length - (i + 1))
            case measure => omega
            case rel => exact ⟨i + 1, by omega, rfl, by go_num, HF2.out, HO3.out⟩
      · have hcap2 : ¬ cap - (i + 1) = 0 := by omega
        go_wp2_with fail
        go_loopg [23] (xs.length - (i + 1)) (fun gg s23 wr => ∃ t : Nat, t ≤ xs.length - (i + 1) ∧ gg = xs.length - (i + 1) - t ∧ s23 = .int .i64 t ∧ Frm w1.heap.size (w1.heap.size + 1) w2 wr ∧ Hid (OwnF wr w1.heap.size (w1.heap.size + 1) 3 (.slice (some ⟨w1.heap.size, 0, none⟩) xs.length xs.length) xs.length (fun j => .int .i64 (if j < i then (codeN xs j : Int) else if j = i then (cdN xs i t : Int) else 0))))
        case atStart => exact ⟨0, Nat.zero_le _, rfl, rfl, HF.out, HO1.out.congr fun j hj => by
          by_cases h1 : j < i
          · simp [h1]
          · simp [h1, cdN_zero]⟩
        case round =>
          obtain ⟨t, ht, rfl, rfl, hF, hO⟩ := hrel
          have HF2 := Lib.hid hF
          have HO2 := Lib.hid hO.out
          clear hF hO
          by_cases htl : t < xs.length - (i + 1)
          · have htl2 : (t : Int) < ((xs.length - (i + 1) : Nat) : Int) := by omega
            have htl3 : (0 : Int) ≤ (t : Int) := by omega
            have hk1 := Hc.out (i + 1 + t) (by omega)
            have hk2 := Hc.out i hlt
            have hbw := HBw.out wr HF2.out
            have c1 : wr.cell? ⟨b, off + (i + 1) + t, none⟩ = some (.int .i64 (xs.getD (i + 1 + t) 0)) := by
              rw [show off + (i + 1) + t = off + (i + 1 + t) by omega, hbw.cell (p := ⟨b, off + (i + 1 + t), none⟩) (World.block_lt_of_cell? _ _ hk1), hk1]; rfl
            have c2 : wr.cell? ⟨b, off + i, none⟩ = some (.int .i64 (xs.getD i 0)) := by
              rw [hbw.cell (p := ⟨b, off + i, none⟩) (World.block_lt_of_cell? _ _ hk2), hk2]; rfl
            have c3 := HO2.out.cell hlt
            have c4 := HO2.out.frozen i
            rw [if_neg (Nat.lt_irrefl i), if_pos rfl] at c3
            have hle := cdN_le xs i t
            obtain ⟨x, hx'⟩ : ∃ x, x = xs.getD i 0 := ⟨_, rfl⟩
            obtain ⟨y, hy'⟩ : ∃ y, y = xs.getD (i + 1 + t) 0 := ⟨_, rfl⟩
            obtain ⟨c, hc'⟩ : ∃ c, c = cdN xs i t := ⟨_, rfl⟩
            rw [← hy'] at c1
            rw [← hx'] at c2
            rw [← hc'] at c3 hle
            have Hx := Lib.hid hx'
            have Hy := Lib.hid hy'
            have Hcc := Lib.hid hc'
            clear hk1 hk2 hbw hx' hy' hc'
            by_cases hlt9 : y < x
            · have HG := Lib.hid (show cdN xs i (t + 1) = c + 1 by rw [cdN_yes (by rw [← Hx.out, ← Hy.out]; exact hlt9), Hcc.out])
              go_wp2_with fail
              go_roundg (xs.length - (i + 1) - (t + 1))
              case measure => omega
              case rel =>
                refine ⟨t + 1, by omega, rfl, by go_num, HF2.out.setCell (p := ⟨w1.heap.size, i, none⟩) (Nat.le_refl _) (Nat.lt_succ_self _) _, ?_⟩
                refine (HO2.out.set i _).congr fun j hj => ?_
                by_cases h1 : j = i
                · subst h1; rw [if_pos rfl, if_neg (Nat.lt_irrefl _), if_pos rfl, HG.out]; go_num
                · rw [if_neg h1]
                  simp only [h1, if_false]
            · have HG := Lib.hid (show cdN xs i (t + 1) = cdN xs i t from cdN_no (by rw [← Hx.out, ← Hy.out]; exact hlt9))
              go_wp2_with fail
              go_roundg (xs.length - (i + 1) - (t + 1))
              case measure => omega
              case rel => exact ⟨t + 1, by omega, rfl, by go_num, HF2.out, by show OwnF _ _ _ _ _ _ _; rw [HG.out]; exact HO2.out⟩
          · obtain rfl : t = xs.length - (i + 1) := by omega
            have htl2 : ¬ ((xs.length - (i + 1) : Nat) : Int) < ((xs.length - (i + 1) : Nat) : Int) := by omega
            have HO3 := Lib.hid (show OwnF wr w1.heap.size (w1.heap.size + 1) 3 (.slice (some ⟨w1.heap.size, 0, none⟩) xs.length xs.length) xs.length (fun j => .int .i64 (if j < i + 1 then (codeN xs j : Int) else 0)) from HO2.out.congr fun j hj => by
              by_cases h1 : j < i
              · rw [if_pos h1, if_pos (by omega)]
              · by_cases h2 : j = i
                · subst h2; rw [if_neg h1, if_pos rfl, if_pos (by omega)]; rfl
                · rw [if_neg h1, if_neg h2, if_neg (by omega)])
            go_wp2_with fail
            go_roundg (xs.length - (i + 1))
            case measure => omega
            case rel => exact ⟨i + 1, by omega, rfl, by go_num, HF2.out, HO3.out⟩
    · obtain rfl : i = xs.length := by omega
      have hlt2 : ¬ (xs.length : Int) < (xs.length : Int) := by omega
      have HO9 := Lib.hid (show OwnI 3 wo w1.heap.size (w1.heap.size + 1) (.slice (some ⟨w1.heap.size, 0, none⟩) xs.length xs.length) (codeL xs) by
        refine OwnF.ints ?_
        rw [codeL_length]
        exact HO1.out.congr fun j hj => by rw [if_pos hj]; unfold iv; rw [codeL_getD hj])
      go_wp2_with fail
      go_ret
      exact ⟨_, rfl, HO9.out.mono Hs.out.1 (by have := Hs.out.2; have := HF.out.size; omega), HBw.out _ HF.out⟩

set_option maxRecDepth 100000 in
set_option maxHeartbeats 2000000 in
theorem implLength_any (v : Value) (xs : List Int) (w : World) (h : Ints w v xs) (hp : permOk xs = true) :
    Calls Try.prog 12 #[v] w fun e w' => e = .returned (.int .i64 (lenP xs : Int)) ∧ Below w.heap.size w w' := by
  obtain ⟨hl1, hl7, _, _⟩ := of_decide_eq_true hp
  have Hp := Lib.hid hp
  have Hh := Lib.hid h
  clear hp h
  go_enter Try.func12, Try.ntmps12
  go_wp2_with fail
  refine (implIsPerm_b _ xs _ Hp.out _ Hh.out).mono ?_
  rintro e w1 ⟨rfl, hb⟩
  have Hb1 := Lib.hid hb
  have Hh1 := Lib.hid (Hh.out.below hb)
  clear hb
  go_wp2_with fail
  refine (implCode_any _ xs _ Hh1.out Hp.out).mono ?_
  rintro e w2 ⟨u, rfl, ho, hb⟩
  have hoi := ho.ints
  obtain ⟨p, cap, rfl, ⟨hx1, hx⟩, hxc⟩ := hoi
  rw [codeL_length] at *
  unfold maxLen at hx
  have Hb2 := Lib.hid (Hb1.out.trans (hb.mono Hb1.out.size))
  obtain ⟨b, off, rfl, hc⟩ := hxc (by omega)
  have Hc := Lib.hid hc
  clear hb ho hxc hc
  go_wp2_with fail
  go_loop [3, 12] (fun s3 s12 => ∃ k : Nat, k ≤ xs.length ∧ s12 = .int .i64 k ∧ s3 = .int .i64 (lenTo xs k : Int)) (fun _ s12 => xs.length - (intOf s12).toNat)
  case atStart => exact ⟨0, Nat.zero_le _, rfl, rfl⟩
  case round =>
    obtain ⟨k, hk, rfl, rfl⟩ := hrel
    by_cases hlt : k < xs.length
    · have hlt2 : (k : Int) < (xs.length : Int) := by omega
      have hlt3 : (0 : Int) ≤ (k : Int) := by omega
      have c1 := Hc.out k hlt
      unfold iv at c1
      rw [codeL_getD hlt] at c1
      have hle := lenTo_le xs k
      have hle2 : codeN xs k ≤ xs.length - (k + 1) := cdN_le xs k _
      have hle3 : k * xs.length ≤ 7 * 7 := Nat.mul_le_mul (by omega) hl7
      have HS := Lib.hid (show lenTo xs (k + 1) = lenTo xs k + codeN xs k from rfl)
      obtain ⟨A, hA⟩ : ∃ A, A = lenTo xs k := ⟨_, rfl⟩
      obtain ⟨B, hB⟩ : ∃ B, B = codeN xs k := ⟨_, rfl⟩
      have hAl : A ≤ 49 := by omega
      have hBl : B ≤ 7 := by omega
      rw [← hA, ← hB] at HS
      rw [← hB] at c1
      rw [← hA]
      clear hA hB hle hle2 hle3
      go_wp2_with fail
      go_round
      case rel => exact ⟨k + 1, by omega, by go_num, by rw [HS.out]; go_num⟩
      case measure => simp [intOf]; omega
    · obtain rfl : k = xs.length := by omega
      have hlt2 : ¬ (xs.length : Int) < (xs.length : Int) := by omega
      go_wp2_with fail
      go_ret
      exact ⟨rfl, Hb2.out⟩

end Go.Proofs.Ytoodgbflaaabmaa

namespace Go.Proofs.Ytoodgbflaaabmaa
set_option linter.all false
open Go.RowKit

theorem Nf.indep {P : Int} {n : Nat} {X : Nat → Nat → Int} {q : Nat → Nat} (h : Nf P n X q n) : Indep P n n X := fun c hc =>
  indep_up (P := P) (n := n) (L := fun i j => X i (q j)) (fun i hi => ⟨1, by show P ∣ 1 * X i (q i) - 1; rw [h.one i hi]; simp⟩) (fun i j hj hi => h.early i j hi hj) c fun j hj => hc (q j) (h.lt j hj)

/-- what is put in lies at the free places, and in range -/
theorem fillSt_at {p : Nat} (hp : 0 < p) (D : List Int) (free : List Nat) (x : Nat) : ∀ j, j ≤ free.length → ∀ t, (fillSt p D free x j).1.getD t 0 = D.getD t 0 ∨ (t ∈ free ∧ 0 ≤ (fillSt p D free x j).1.getD t 0 ∧ (fillSt p D free x j).1.getD t 0 < (p : Int))
  | 0, _, t => .inl rfl
  | j + 1, hj, t => by
    have ih := fillSt_at hp D free x j (by omega) t
    show ((fillSt p D free x j).1.set (free.getD (free.length - 1 - j) 0) (((fillSt p D free x j).2 % p : Nat) : Int)).getD t 0 = _ ∨ _ ∧ 0 ≤ ((fillSt p D free x j).1.set (free.getD (free.length - 1 - j) 0) (((fillSt p D free x j).2 % p : Nat) : Int)).getD t 0 ∧ ((fillSt p D free x j).1.set (free.getD (free.length - 1 - j) 0) (((fillSt p D free x j).2 % p : Nat) : Int)).getD t 0 < _
    have hm : free.getD (free.length - 1 - j) 0 ∈ free := by
      have hlt : free.length - 1 - j < free.length := by omega
      rw [List.getD_eq_getElem?_getD, List.getElem?_eq_getElem hlt]
      exact List.getElem_mem hlt
    by_cases e : free.getD (free.length - 1 - j) 0 = t
    · by_cases hl : t < (fillSt p D free x j).1.length
      · rw [e]
        have g : ((fillSt p D free x j).1.set t (((fillSt p D free x j).2 % p : Nat) : Int)).getD t 0 = (((fillSt p D free x j).2 % p : Nat) : Int) := by
          rw [List.getD_eq_getElem?_getD, List.getElem?_set_self hl]; rfl
        rw [g]
        refine .inr ⟨e ▸ hm, by omega, ?_⟩
        have := Nat.mod_lt (fillSt p D free x j).2 hp
        omega
      · rw [e, List.set_eq_of_length_le (by omega)]
        exact ih
    · generalize free.getD (free.length - 1 - j) 0 = z at e ⊢
      have g : ((fillSt p D free x j).1.set z (((fillSt p D free x j).2 % p : Nat) : Int)).getD t 0 = (fillSt p D free x j).1.getD t 0 := by
        rw [List.getD_eq_getElem?_getD, List.getD_eq_getElem?_getD, List.getElem?_set_ne e]
      rw [g]
      exact ih

theorem flF_free {xs : List Int} {r c : Nat} (hc : c < xs.length) (h : r * xs.length + c ∈ flF xs xs.length) : xs.getD r 0 < (c : Int) ∧ ¬ (c : Int) ∈ xs.take r := by
  unfold flF at h
  obtain ⟨r', hr', h⟩ := List.mem_flatMap.1 h
  unfold flG at h
  obtain ⟨c', hc', e⟩ := List.mem_map.1 h
  obtain ⟨h1, h2⟩ := List.mem_filter.1 hc'
  obtain ⟨e1, e2⟩ := flat_inj2 (List.mem_range.1 h1) hc e
  subst e1 e2
  simpa using h2

section
variable {P : Nat} {xs : List Int}
/-- each is in normal form -/
theorem fill_nf (hp : primeOk P = true) (hx : permOk xs = true) (x : Nat) :
    Nf P xs.length (mf xs.length fun t => (fillSt P (permRows xs).flatten (flF xs xs.length) x (flF xs xs.length).length).1.getD t 0) (fun k => (xs.getD k 0).toNat) xs.length := by
  obtain ⟨hP, _⟩ := primeOk_range hp
  obtain ⟨_, _, hr, hn⟩ := of_decide_eq_true hx
  have hq : ∀ k, k < xs.length → 0 ≤ xs.getD k 0 ∧ xs.getD k 0 < (xs.length : Int) := fun k hk => hr _ (getD_mem hk)
  have hA := fillSt_at (p := P) (by omega) (permRows xs).flatten (flF xs xs.length) x (flF xs xs.length).length (Nat.le_refl _)
  have hz : ∀ k j, k < xs.length → j < xs.length → (¬ (xs.getD k 0 < (j : Int) ∧ ¬ (j : Int) ∈ xs.take k)) → mf xs.length (fun t => (fillSt P (permRows xs).flatten (flF xs xs.length) x (flF xs xs.length).length).1.getD t 0) k j = if (j : Int) = xs.getD k 0 then 1 else 0 := fun k j hk hj hf => by
    rw [← permRows_mf rfl hk hj]
    rcases hA (k * xs.length + j) with h | ⟨h, _⟩
    · exact h
    · exact absurd (flF_free hj h) hf
  refine ⟨fun k hk => by have := hq k hk; show (xs.getD k 0).toNat < _; omega, fun k j hk hj => ?_, fun k hk => ?_, fun k l hk hl => ?_, fun k j hk hj => ?_⟩
  · have := hq k hk
    have hj : j < (xs.getD k 0).toNat := hj
    rw [hz k j hk (by omega) (by omega), if_neg (by omega)]
  · have := hq k hk
    rw [hz k _ hk (by omega) (by omega), if_pos (by omega)]
  · have h1 := hq l (by omega)
    have e : (((xs.getD l 0).toNat : Nat) : Int) = xs.getD l 0 := Int.toNat_of_nonneg h1.1
    have hl' : l < xs.length := by omega
    have a : xs.getD k 0 = xs[k] := getD_lt hk
    have b : xs.getD l 0 = xs[l] := getD_lt hl'
    rw [hz k _ hk (by omega) ?_, if_neg ?_]
    · rw [e, a, b]
      exact List.pairwise_iff_getElem.1 hn l k hl' hk hl
    · rintro ⟨_, h2⟩
      refine h2 ?_
      rw [e, b]
      exact List.mem_iff_getElem.2 ⟨l, by rw [List.length_take]; omega, by rw [List.getElem_take]⟩
  · rcases hA (k * xs.length + j) with h | ⟨_, h⟩
    · show 0 ≤ List.getD _ (k * xs.length + j) 0 ∧ List.getD _ (k * xs.length + j) 0 < _
      rw [h]
      exact getD_range (permRows_rng hP xs) (by omega) _
    · exact h

theorem fill_fl (hp : primeOk P = true) (hx : permOk xs = true) (x : Nat) :
    IsFl P xs.length xs.length (fillSt P (permRows xs).flatten (flF xs xs.length) x (flF xs xs.length).length).1 := by
  obtain ⟨h1, h7, _, _⟩ := of_decide_eq_true hx
  obtain ⟨hP, _⟩ := primeOk_range hp
  have hl : (fillSt P (permRows xs).flatten (flF xs xs.length) x (flF xs xs.length).length).1.length = xs.length * xs.length := by rw [fillSt_length, permRows_flat_length]
  refine isFl_of hp h1 h7 hl (fun y hy => ?_) (fill_nf hp hx x).indep
  obtain ⟨t, ht, rfl⟩ := List.mem_iff_getElem.1 hy
  rw [← getD_lt ht]
  rcases fillSt_at (p := P) (by omega) (permRows xs).flatten (flF xs xs.length) x (flF xs xs.length).length (Nat.le_refl _) t with h | ⟨_, h⟩
  · rw [h]; exact getD_range (permRows_rng hP xs) (by omega) _
  · exact h
/-- the normal form of each is itself, its permutation the given one -/
theorem nf_own {n : Nat} {D DM : List Int} {q : Nat → Nat} (hf : IsFl P n n D) (hl : D.length = n * n) (h : Nf P n (mf n fun t => D.getD t 0) q n) (h2 : NfIs P n n D ⟨P, n, n, DM⟩ true) : DM = D := by
  obtain ⟨_, _, _, _, _, _, _, hP, _⟩ := hf.facts
  obtain ⟨_, X', q', h3, e⟩ := NfIs.of hf h2
  injection e with _ _ _ e
  have h4 := (NfUp.own hP h h3.up).2
  rw [e, flatM_congr (M := X') (M' := mf n fun t => D.getD t 0) fun i j hi hj => (h4 i j hi hj).symm]
  rw [flatM_mf]
  refine getD_eq_list (by simp [hl]) fun j hj => ?_
  have hj : j < n * n := by simpa using hj
  simp [List.getD_eq_getElem?_getD, hj]
theorem nf_ownP {n : Nat} {D l : List Int} {q : Nat → Nat} (hf : IsFl P n n D) (h : Nf P n (mf n fun t => D.getD t 0) q n) (h2 : FpIs P n n D l) : l = qL n q := by
  obtain ⟨_, _, _, _, _, _, _, hP, _⟩ := hf.facts
  obtain ⟨X', q', h3, rfl⟩ := FpIs.of hf h2
  exact (qL_congr (NfUp.own hP h h3.up).1).symm
theorem qL_self (hx : permOk xs = true) : qL xs.length (fun k => (xs.getD k 0).toNat) = xs := by
  obtain ⟨_, _, hr, _⟩ := of_decide_eq_true hx
  refine getD_eq_list (qL_length _ _) fun j hj => ?_
  rw [qL_length] at hj
  rw [qL_getD hj, Int.toNat_of_nonneg (hr _ (getD_mem hj)).1]
end

/-- the free places are as many as what is not turned round, for small permutations -/
def fcB (xs : List Int) : Bool := !permOk xs || decide ((flF xs xs.length).length + lenP xs = xs.length * (xs.length - 1) / 2)
theorem fcB_of {xs : List Int} (hx : permOk xs = true) (h : fcB xs = true) : (flF xs xs.length).length + lenP xs = xs.length * (xs.length - 1) / 2 := by
  unfold fcB at h; rw [hx] at h; simpa using h
set_option maxRecDepth 100000 in
theorem free_2 : ∀ a b : Fin 2, fcB [(((a : Nat) : Int)), (((b : Nat) : Int))] = true := by decide +kernel
set_option maxRecDepth 100000 in
theorem free_3 : ∀ a b c : Fin 3, fcB [(((a : Nat) : Int)), (((b : Nat) : Int)), (((c : Nat) : Int))] = true := by decide +kernel
set_option maxRecDepth 100000 in
theorem free_4 : ∀ a b c d : Fin 4, fcB [(((a : Nat) : Int)), (((b : Nat) : Int)), (((c : Nat) : Int)), (((d : Nat) : Int))] = true := by decide +kernel
theorem fin_of {n : Nat} {x : Int} (h : 0 ≤ x ∧ x < (n : Int)) : ∃ a : Fin n, x = ((a : Nat) : Int) := ⟨⟨x.toNat, by omega⟩, by show x = ((x.toNat : Nat) : Int); omega⟩
theorem free_count {xs : List Int} (hx : permOk xs = true) (h2 : 2 ≤ xs.length) (h4 : xs.length ≤ 4) : (flF xs xs.length).length + lenP xs = xs.length * (xs.length - 1) / 2 := by
  obtain ⟨_, _, hr, _⟩ := of_decide_eq_true hx
  match xs, h2, h4, hx, hr with
  | [a, b], _, _, hx, hr =>
    obtain ⟨a, rfl⟩ := fin_of (n := 2) (hr a (by simp))
    obtain ⟨b, rfl⟩ := fin_of (n := 2) (hr b (by simp))
    exact fcB_of hx (free_2 a b)
  | [a, b, c], _, _, hx, hr =>
    obtain ⟨a, rfl⟩ := fin_of (n := 3) (hr a (by simp))
    obtain ⟨b, rfl⟩ := fin_of (n := 3) (hr b (by simp))
    obtain ⟨c, rfl⟩ := fin_of (n := 3) (hr c (by simp))
    exact fcB_of hx (free_3 a b c)
  | [a, b, c, d], _, _, hx, hr =>
    obtain ⟨a, rfl⟩ := fin_of (n := 4) (hr a (by simp))
    obtain ⟨b, rfl⟩ := fin_of (n := 4) (hr b (by simp))
    obtain ⟨c, rfl⟩ := fin_of (n := 4) (hr c (by simp))
    obtain ⟨d, rfl⟩ := fin_of (n := 4) (hr d (by simp))
    exact fcB_of hx (free_4 a b c d)

end Go.Proofs.Ytoodgbflaaabmaa
