/-
  FlagsWith: all flags in normal form with a permutation.
-/
import Derived.Test.YtejoapielndnnaaFill
import Derived.Test.YtejoapielndnnaaContains
namespace Go.Proofs.Ytejoapielndnnaa
set_option linter.all false
open Go.RowKit

theorem flat_lt3 {n C i c : Nat} (hi : i < n) (hc : c < C) : i * C + c < n * C := by
  have : (i + 1) * C ≤ n * C := Nat.mul_le_mul_right C hi
  rw [Nat.succ_mul] at this
  omega
/-- the first numbers of a list, as a slice -/
theorem ints_take {w : World} {p : Option Addr} {cap : Nat} {xs : List Int} (h : Ints w (.slice p xs.length cap) xs) {i : Nat} (hi : i ≤ xs.length) : Ints w (.slice p i cap) (xs.take i) := by
  obtain ⟨q, c, e, ⟨h1, h2⟩, h3⟩ := h
  injection e with e1 e2 e3
  subst e1 e3
  have hl : (xs.take i).length = i := by rw [List.length_take]; omega
  refine ⟨p, cap, by rw [hl], ⟨by omega, h2⟩, fun h0 => ?_⟩
  obtain ⟨b, off, hp, hx⟩ := h3 (by omega)
  refine ⟨b, off, hp, fun j hj => ?_⟩
  rw [hx j (by omega)]
  unfold iv
  rw [List.getD_eq_getElem?_getD, List.getD_eq_getElem?_getD, List.getElem?_take_of_lt (by omega)]

/-- the free places of row i, up to column j -/
def flG (xs : List Int) (i j : Nat) : List Nat := ((List.range j).filter fun (c : Nat) => decide (xs.getD i 0 < (c : Int)) && !decide ((c : Int) ∈ xs.take i)).map fun (c : Nat) => i * xs.length + c
def flF (xs : List Int) (i : Nat) : List Nat := (List.range i).flatMap fun r => flG xs r xs.length
theorem flG_start (xs : List Int) (i m : Nat) (h : xs.getD i 0 = (m : Int)) : flG xs i (m + 1) = [] := by
  unfold flG
  rw [List.filter_eq_nil_iff.2 ?_]; rfl
  intro c hc
  have := List.mem_range.1 hc
  rw [h]
  simp; intro h2; omega
theorem flG_no (xs : List Int) (i j : Nat) (h2 : (j : Int) ∈ xs.take i) : flG xs i (j + 1) = flG xs i j := by
  unfold flG; rw [List.range_succ, List.filter_append]; simp [h2]
theorem flG_yes (xs : List Int) (i j : Nat) (h : xs.getD i 0 < (j : Int)) (h2 : ¬ (j : Int) ∈ xs.take i) : flG xs i (j + 1) = flG xs i j ++ [i * xs.length + j] := by
  unfold flG; rw [List.range_succ, List.filter_append]
  have e : List.filter (fun (c : Nat) => decide (xs.getD i 0 < (c : Int)) && !decide ((c : Int) ∈ xs.take i)) [j] = [j] := by
    rw [List.filter_cons, if_pos (by rw [decide_eq_true h, decide_eq_false h2]; rfl)]; rfl
  rw [e]; simp
theorem flG_len (xs : List Int) (i j : Nat) : (flG xs i j).length ≤ j := by
  unfold flG
  rw [List.length_map]
  exact Nat.le_trans (List.length_filter_le _ _) (by simp)
theorem flF_succ (xs : List Int) (i : Nat) : flF xs (i + 1) = flF xs i ++ flG xs i xs.length := flatMap_snoc _ _
theorem flF_len (xs : List Int) (h7 : xs.length ≤ 7) (i : Nat) : (flF xs i).length ≤ i * 7 := flatMap_len _ 7 (fun r => Nat.le_trans (flG_len xs r xs.length) h7) i
theorem flG_mem {xs : List Int} {i j t : Nat} (hi : i < xs.length) (hj : j ≤ xs.length) (h : t ∈ flG xs i j) : t < xs.length * xs.length := by
  unfold flG at h
  obtain ⟨c, hc, rfl⟩ := List.mem_map.1 h
  have := List.mem_range.1 (List.mem_filter.1 hc).1
  exact flat_lt3 hi (by omega)
theorem flF_mem {xs : List Int} {t : Nat} (h : t ∈ flF xs xs.length) : t < xs.length * xs.length := by
  unfold flF at h
  obtain ⟨r, hr, ht⟩ := List.mem_flatMap.1 h
  exact flG_mem (List.mem_range.1 hr) (Nat.le_refl _) ht

/-- matrices and a bool, as a call returns them -/
def RetMsB (w : World) (r : List Mx × Bool) (e : Ending) (w' : World) : Prop := ∃ v, e = .returned (.tuple #[v, .bool r.2]) ∧ OwnMs w' w.heap.size w'.heap.size v r.1 ∧ Below w.heap.size w w'
/-- all matrices with numbers at free places, if they are not too many -/
def fillB (p : Int) (R C : Int) (D : List Int) (free : List Nat) : List Mx × Bool := if p.toNat ^ free.length ≤ 400 then (fillMs p.toNat R C D free (p.toNat ^ free.length), true) else ([], false)
def flMs (p : Int) (xs : List Int) : List Mx × Bool := if primeOk p && permOk xs then fillB p xs.length xs.length (permRows xs).flatten (flF xs xs.length) else ([], false)
theorem flMs_no {p : Int} {xs : List Int} (h : primeOk p = false ∨ permOk xs = false) : flMs p xs = ([], false) := by
  unfold flMs; rcases h with h | h <;> simp [h]
theorem flMs_yes {p : Int} {xs : List Int} (h : primeOk p = true) (h2 : permOk xs = true) : flMs p xs = fillB p xs.length xs.length (permRows xs).flatten (flF xs xs.length) := by
  unfold flMs; simp [h, h2]
theorem preM_bound (ms : List Mx) (h : ∀ m ∈ ms, m.D.length ≤ 49) : preM ms ms.length ≤ ms.length * 52 := by
  unfold preM
  rw [List.take_of_length_le (Nat.le_refl _)]
  induction ms with
  | nil => simp
  | cons m ms ih =>
    have h1 := h m (List.mem_cons_self)
    have h2 := ih fun x hx => h x (List.mem_cons_of_mem _ hx)
    simp only [List.map_cons, List.sum_cons, List.length_cons]
    omega
theorem fillB_len (p R C : Int) (D : List Int) (free : List Nat) (hD : D.length ≤ 49) : preM (fillB p R C D free).1 (fillB p R C D free).1.length ≤ 1000000 := by
  unfold fillB
  split
  · rename_i h
    have h1 := preM_bound (fillMs p.toNat R C D free (p.toNat ^ free.length)) fun m hm => by
      obtain ⟨x, _, rfl⟩ := List.mem_map.1 hm
      show (fillSt p.toNat D free x free.length).1.length ≤ 49
      rw [fillSt_length]; exact hD
    dsimp only
    rw [fillMs_length] at h1 ⊢
    omega
  · simp [preM]
theorem flMs_len (p : Int) (xs : List Int) : preM (flMs p xs).1 (flMs p xs).1.length ≤ 1000000 := by
  unfold flMs
  split
  · rename_i h
    simp only [Bool.and_eq_true] at h
    obtain ⟨_, h7, _⟩ := of_decide_eq_true h.2
    exact fillB_len _ _ _ _ _ (by rw [permRows_flat_length]; exact Nat.mul_le_mul h7 h7)
  · simp [preM]
theorem matricesWith_any (p : Int) (R C : Int) (d fr : Value) (D : List Int) (free : List Nat) (w : World) (hp : primeOk p = true) (hd : Ints w d D) (hf : Ints w fr (nats free)) (hb : ∀ t ∈ free, t < D.length) (hD : D.length ≤ 49) (hl : free.length ≤ 49) :
    Calls Try.prog 43 #[.agg #[.int .i64 p, .int .i64 R, .int .i64 C, d], fr] w (RetMsB w (fillB p R C D free)) := by
  obtain ⟨h2, h7⟩ := primeOk_range hp
  obtain ⟨q, rfl⟩ := Int.eq_ofNat_of_zero_le (show 0 ≤ p by omega)
  unfold fillB
  rw [Int.toNat_natCast]
  by_cases h : q ^ free.length ≤ 400
  · rw [if_pos h]
    exact (matricesWith_yes q R C d fr D free w hd hf (by omega) (by omega) hb hD hl h).mono fun e w' ⟨v, h1, h2, h3⟩ => ⟨v, h1, h2, h3⟩
  · rw [if_neg h]
    exact (matricesWith_no q R C d fr D free w hf (by omega) (by omega) hl (by omega)).mono fun e w' ⟨h1, h2⟩ => ⟨_, h1, OwnMs.nil _ _ _, h2⟩

set_option maxRecDepth 100000 in
set_option maxHeartbeats 4000000 in
theorem implFlagsWith_any (p : Int) (v : Value) (xs : List Int) (w : World) (h : Ints w v xs) :
    Calls Try.prog 21 #[.int .i64 p, v] w (RetMsB w (flMs p xs)) := by
  have Hh := Lib.hid h
  cases hp : primeOk p with
  | false =>
    rw [flMs_no (.inl hp)]
    have Hp := Lib.hid hp
    clear hp h
    go_enter Try.func21, Try.ntmps21
    go_wp2_with (go_at_call 41; refine (isPrime_b _ _ Hp.out _).mono ?_; rintro e w' ⟨rfl, rfl⟩)
    go_ret2
    exact ⟨_, rfl, OwnMs.nil _ _ _, Below.refl _ _⟩
  | true =>
    have Hp := Lib.hid hp
    obtain ⟨hp2, hp7⟩ := primeOk_range hp
    obtain ⟨pn, rfl⟩ := Int.eq_ofNat_of_zero_le (show 0 ≤ p by omega)
    cases hx : permOk xs with
    | false =>
      rw [flMs_no (.inr hx)]
      have Hx := Lib.hid hx
      clear hp hx h
      go_enter Try.func21, Try.ntmps21
      go_wp2_with (first
        | (go_at_call 41; refine (isPrime_b _ _ Hp.out _).mono ?_; rintro e w' ⟨rfl, rfl⟩)
        | (go_at_call 49; refine (implIsPerm_b _ xs _ Hx.out _ Hh.out).mono ?_; rintro e w1 ⟨rfl, hb⟩))
      go_ret2
      exact ⟨_, rfl, OwnMs.nil _ _ _, hb⟩
    | true =>
      rw [flMs_yes hp hx]
      have Hx := Lib.hid hx
      obtain ⟨hl1, hl7, hr, _⟩ := of_decide_eq_true hx
      have Hr := Lib.hid hr
      obtain ⟨q, cap, rfl, ⟨hx1, hx2⟩, hxc⟩ := h
      have Hxc := Lib.hid hxc
      unfold maxLen at hx2
      clear hp hx hr hxc
      go_enter Try.func21, Try.ntmps21
      go_wp2_with (first
        | (go_at_call 41; refine (isPrime_b _ _ Hp.out _).mono ?_; rintro e w' ⟨rfl, rfl⟩)
        | (go_at_call 49; refine (implIsPerm_b _ xs _ Hx.out _ Hh.out).mono ?_; rintro e w1 ⟨rfl, hb⟩))
      have Hb := Lib.hid hb
      have hsw := hb.size
      obtain ⟨b0, off, rfl, hc0⟩ := Hxc.out (by omega)
      have Hc0 := Lib.hid hc0
      clear hb hc0 Hxc
      go_loopg [6, 21] xs.length (fun gg s6 s21 wr => ∃ i : Nat, i ≤ xs.length ∧ gg = xs.length - i ∧ s21 = .int .i64 i ∧ Below w1.heap.size w1 wr ∧ Hid (OwnI 3 wr w1.heap.size wr.heap.size s6 (nats (flF xs i))))
      case atStart => exact ⟨0, Nat.zero_le _, rfl, rfl, below_alloc _ _, (OwnF.made0 w1 3 (iv [])).ints.mono (Nat.le_refl _) (by simp)⟩
      case round =>
        obtain ⟨i, hi, rfl, rfl, hbl, hO⟩ := hrel
        obtain ⟨wo, rfl⟩ : ∃ x : World, x = wr := ⟨_, rfl⟩
        have HO := Lib.hid hO.out
        clear hO
        by_cases hlt : i < xs.length
        · have hlt2 : (i : Int) < (xs.length : Int) := by omega
          have hlt3 : (0 : Int) ≤ (i : Int) := by omega
          have hx0 := Hr.out _ (getD_mem hlt)
          obtain ⟨m, hm⟩ := Int.eq_ofNat_of_zero_le hx0.1
          have hml : m < xs.length := by omega
          have c1 : wo.cell? ⟨b0, off + i, none⟩ = some (.int .i64 (m : Int)) := by
            have h5 := Hc0.out i hlt
            rw [(Hb.out.trans (hbl.mono hsw)).cell (p := ⟨b0, off + i, none⟩) (World.block_lt_of_cell? _ _ h5), h5]; simp only [iv, hm]
          have Hm := Lib.hid hm
          have HG0 := Lib.hid (flG_start xs i m hm)
          clear hx0 hm
          go_wp2_with fail
          clear c1
          go_loopg [6, 9] (xs.length - (m + 1)) (fun gg s6 s9 wr => ∃ j : Nat, m < j ∧ j ≤ xs.length ∧ gg = xs.length - j ∧ s9 = .int .i64 (j : Int) ∧ Below w1.heap.size w1 wr ∧ Hid (OwnI 3 wr w1.heap.size wr.heap.size s6 (nats (flF xs i ++ flG xs i j))))
          case atStart => exact ⟨m + 1, by omega, by omega, rfl, rfl, hbl, by show OwnI _ _ _ _ _ _; rw [HG0.out, List.append_nil]; exact HO.out⟩
          case round =>
            obtain ⟨j, hmj, hj, rfl, rfl, hbi, hO⟩ := hrel
            have HO := Lib.hid hO.out
            clear hO
            by_cases hjl : j < xs.length
            · have hjl2 : (j : Int) < (xs.length : Int) := by omega
              have hI : Ints wr (.slice (some ⟨b0, off, none⟩) i cap) (xs.take i) := ints_take (Hh.out.below (Hb.out.trans (hbi.mono hsw))) (by omega)
              have HI := Lib.hid hI
              have hcap : (i : Int) ≤ (cap : Int) := by omega
              clear hI
              cases hd : decide ((j : Int) ∈ xs.take i) with
              | true =>
                have HGn := Lib.hid (flG_no xs i j (of_decide_eq_true hd))
                have Hd := Lib.hid hd
                clear hd
                go_wp2_with fail
                refine (contains_any _ (xs.take i) (j : Int) _ HI.out).mono ?_
                rintro e w2 ⟨rfl, hq⟩
                rw [Hd.out]
                have hb2 := hq.below wr.heap.size
                clear hq
                go_wp2_with fail
                go_roundg (xs.length - (j + 1))
                case measure => omega
                case rel =>
                  refine ⟨j + 1, by omega, by omega, rfl, by go_num, hbi.trans (hb2.mono hbi.size), ?_⟩
                  show OwnI _ _ _ _ _ _
                  rw [HGn.out]
                  exact (HO.out.below hb2).mono (Nat.le_refl _) hb2.size
              | false =>
                have HGy := Lib.hid (flG_yes xs i j (by rw [Hm.out]; exact Int.ofNat_lt.2 hmj) (of_decide_eq_false hd))
                have Hd := Lib.hid hd
                clear hd
                go_wp2_with fail
                refine (contains_any _ (xs.take i) (j : Int) _ HI.out).mono ?_
                rintro e w2 ⟨rfl, hq⟩
                rw [Hd.out]
                have hb2 := hq.below wr.heap.size
                have hs2 := hq.size
                clear hq
                have hnn : i * xs.length ≤ 7 * 7 := Nat.mul_le_mul (by omega) hl7
                have hFl := flF_len xs hl7 i
                have hGl := flG_len xs i j
                have hLl : (flF xs i ++ flG xs i j).length ≤ 60 := by rw [List.length_append]; omega
                obtain ⟨L, hL⟩ : ∃ L, L = flF xs i ++ flG xs i j := ⟨_, rfl⟩
                obtain ⟨K, hK, H3, H4⟩ := mul_hid i xs.length (by omega)
                have hKl : K ≤ 49 := by omega
                have Hol := HO.out.below hb2
                rw [← hL] at Hol hLl
                have HL := Lib.hid hL
                have HK := Lib.hid hK
                have hol := Lib.hid Hol
                have Hl1 := Lib.hid (show (nats L).length + 1 ≤ maxLen by rw [nats_length]; unfold maxLen; omega)
                have Hl2 := Lib.hid (show ((nats L).length + 1) * 8 ≤ 140737488355328 by rw [nats_length]; omega)
                have Hbb := Lib.hid (hbi.trans (hb2.mono hbi.size))
                clear hK hnn hFl hGl hLl hL Hol
                have Hk1 := Lib.hid (show wrap64 ((K : Int) + (j : Int)) = (K : Int) + (j : Int) from w64 (by omega) (by omega))
                have Hk2 := Lib.hid (show IntKind.i64.wrap ((K : Int) + (j : Int)) = (K : Int) + (j : Int) from k64 (by omega) (by omega))
                have Hs1 := Lib.hid (show w1.heap.size ≤ (w2.alloc (.cells #[.int .i64 ((K : Int) + (j : Int))] 3)).heap.size by have := Hbb.out.size; rw [size_alloc]; omega)
                have Hs2 := Lib.hid (show wr.heap.size ≤ (w2.alloc (.cells #[.int .i64 ((K : Int) + (j : Int))] 3)).heap.size by rw [size_alloc]; omega)
                have h3 := H3.out
                have h4 := H4.out
                have h5 := Hk1.out
                have h6 := Hk2.out
                go_wp2_with (at_builtin; go_must (refine wpList_append_F rfl (.tmp 40) (.tmp 47) 22 rfl 3 (.int .i64 0) 8 Try.underlying22 info_int rfl w1.heap.size wr.heap.size _ (nats L).length _ rfl (hol.out.fn.below (below_alloc _ _)) Hs1.out Hs2.out _ _ _ rfl (rd_one _ _ _ hs2.symm) (fun j _ => rfl) Hl1.out Hl2.out ?_; clear h3 h4 h5 h6; intro v' w' ho' hg'))
                have hol2 := OwnI.snoc1 ho'
                have hgb := grownBy_below hg' (OwnF.blocks hol.out.fn) (Nat.le_refl _) Hs1.out
                have hsz := hg'.size
                simp only [size_alloc] at hsz
                go_roundg (xs.length - (j + 1))
                case measure => omega
                case rel =>
                  refine ⟨j + 1, by omega, by omega, rfl, by go_num, (Hbb.out.trans ((below_alloc _ _).mono Hbb.out.size)).trans hgb, ?_⟩
                  show OwnI _ _ _ _ _ _
                  rw [HGy.out, ← List.append_assoc, ← HL.out, nats_snoc, ← HK.out]
                  exact hol2
            · obtain rfl : j = xs.length := by omega
              have hjl2 : ¬ (xs.length : Int) < (xs.length : Int) := by omega
              go_wp2_with fail
              go_roundg (xs.length - (i + 1))
              case measure => omega
              case rel => exact ⟨i + 1, by omega, rfl, by go_num, hbi, by show OwnI _ _ _ _ _ _; rw [flF_succ]; exact HO.out⟩
        · obtain rfl : i = xs.length := by omega
          have hlt2 : ¬ (xs.length : Int) < (xs.length : Int) := by omega
          have hFl := flF_len xs hl7 xs.length
          have hFl2 : (flF xs xs.length).length ≤ 49 := by omega
          have hDl : (permRows xs).flatten.length = xs.length * xs.length := permRows_flat_length xs
          have hD49 : (permRows xs).flatten.length ≤ 49 := by rw [hDl]; exact Nat.mul_le_mul hl7 hl7
          have HD49 := Lib.hid hD49
          have Hmem := Lib.hid (show ∀ t ∈ flF xs xs.length, t < (permRows xs).flatten.length by intro t ht; rw [hDl]; exact flF_mem ht)
          have HI := Lib.hid (Hh.out.below (Hb.out.trans (hbl.mono hsw)))
          have Hpm := Lib.hid (permMx_yes Hp.out Hx.out)
          have Hbl := Lib.hid (Hb.out.trans (hbl.mono hsw))
          have HF2 := Lib.hid hFl2
          obtain ⟨D, hD⟩ : ∃ D, D = (permRows xs).flatten := ⟨_, rfl⟩
          obtain ⟨L, hL⟩ : ∃ L, L = flF xs xs.length := ⟨_, rfl⟩
          rw [← hD] at HD49 Hmem Hpm
          rw [← hL] at HF2 Hmem HO
          have HDe := Lib.hid hD
          have HLe := Lib.hid hL
          obtain ⟨pv, kv, rfl, _, _⟩ := HO.out.shape
          rw [nats_length] at HO ⊢
          clear hDl hD49 hFl hFl2 hD hL
          go_wp2_with fail

          refine (implPermMatrix_any (pn : Int) _ xs _ HI.out).mono ?_
          rw [Hpm.out]
          rintro e w2 ⟨u, rfl, ho, hb2⟩
          dsimp only at ho ⊢
          have Hoi := Lib.hid ho.ints
          obtain ⟨pd, kd, rfl, _, _⟩ := ho.shape
          have HO2 := Lib.hid (HO.out.below hb2)
          have Hb2 := Lib.hid hb2
          clear ho hb2
          go_wp2_with fail
          refine (matricesWith_any (pn : Int) _ _ _ _ _ L _ Hp.out Hoi.out HO2.out.ints Hmem.out HD49.out HF2.out).mono ?_
          rintro e w3 ⟨vr, rfl, hv, hb3⟩
          have hs1 := Hbl.out.size
          have hs2 := Hb2.out.size
          obtain ⟨pr, kr, rfl, _, _⟩ := hv.shape
          have Hv := Lib.hid hv
          clear hv
          go_wp2_with fail
          go_ret2
          have e1 := HDe.out
          have e2 := HLe.out
          subst e1 e2
          exact ⟨_, rfl, Hv.out.mono (by omega) (Nat.le_refl _), (Hbl.out.trans (Hb2.out.mono hs1)).trans (hb3.mono (by omega))⟩

set_option maxRecDepth 100000 in
set_option maxHeartbeats 4000000 in
theorem specFlagsWith_any (p : Int) (v : Value) (xs : List Int) (w : World) (h : Ints w v xs) :
    Calls Try.prog 20 #[.int .i64 p, v] w (RetMsB w (flMs p xs)) := by
  have Hh := Lib.hid h
  cases hp : primeOk p with
  | false =>
    rw [flMs_no (.inl hp)]
    have Hp := Lib.hid hp
    clear hp h
    go_enter Try.func20, Try.ntmps20
    go_wp2_with (go_at_call 36; refine (l7Prime_b _ _ Hp.out _).mono ?_; rintro e w' ⟨rfl, rfl⟩)
    go_ret2
    exact ⟨_, rfl, OwnMs.nil _ _ _, Below.refl _ _⟩
  | true =>
    have Hp := Lib.hid hp
    obtain ⟨hp2, hp7⟩ := primeOk_range hp
    obtain ⟨pn, rfl⟩ := Int.eq_ofNat_of_zero_le (show 0 ≤ p by omega)
    cases hx : permOk xs with
    | false =>
      rw [flMs_no (.inr hx)]
      have Hx := Lib.hid hx
      clear hp hx h
      go_enter Try.func20, Try.ntmps20
      go_wp2_with (first
        | (go_at_call 36; refine (l7Prime_b _ _ Hp.out _).mono ?_; rintro e w' ⟨rfl, rfl⟩)
        | (go_at_call 46; refine (specIsPerm_b _ xs _ Hx.out _ Hh.out).mono ?_; rintro e w1 ⟨rfl, hq⟩; have hb := hq.below w.heap.size))
      go_ret2
      exact ⟨_, rfl, OwnMs.nil _ _ _, hb⟩
    | true =>
      rw [flMs_yes hp hx]
      have Hx := Lib.hid hx
      obtain ⟨hl1, hl7, hr, _⟩ := of_decide_eq_true hx
      have Hr := Lib.hid hr
      obtain ⟨q, cap, rfl, ⟨hx1, hx2⟩, hxc⟩ := h
      have Hxc := Lib.hid hxc
      unfold maxLen at hx2
      clear hp hx hr hxc
      go_enter Try.func20, Try.ntmps20
      go_wp2_with (first
        | (go_at_call 36; refine (l7Prime_b _ _ Hp.out _).mono ?_; rintro e w' ⟨rfl, rfl⟩)
        | (go_at_call 46; refine (specIsPerm_b _ xs _ Hx.out _ Hh.out).mono ?_; rintro e w1 ⟨rfl, hq⟩; have hb := hq.below w.heap.size))
      have Hb := Lib.hid hb
      have hsw := hb.size
      obtain ⟨b0, off, rfl, hc0⟩ := Hxc.out (by omega)
      have Hc0 := Lib.hid hc0
      clear hb hc0 Hxc hq
      go_loopg [7, 8] xs.length (fun gg s7 s8 wr => ∃ i : Nat, i ≤ xs.length ∧ gg = xs.length - i ∧ s8 = .int .i64 i ∧ Below w1.heap.size w1 wr ∧ Hid (OwnI 3 wr w1.heap.size wr.heap.size s7 (nats (flF xs i))))
      case atStart => exact ⟨0, Nat.zero_le _, rfl, rfl, below_alloc _ _, (OwnF.made0 w1 3 (iv [])).ints.mono (Nat.le_refl _) (by simp)⟩
      case round =>
        obtain ⟨i, hi, rfl, rfl, hbl, hO⟩ := hrel
        obtain ⟨wo, rfl⟩ : ∃ x : World, x = wr := ⟨_, rfl⟩
        have HO := Lib.hid hO.out
        clear hO
        by_cases hlt : i < xs.length
        · have hlt2 : (i : Int) < (xs.length : Int) := by omega
          have hlt3 : (0 : Int) ≤ (i : Int) := by omega
          have hx0 := Hr.out _ (getD_mem hlt)
          obtain ⟨m, hm⟩ := Int.eq_ofNat_of_zero_le hx0.1
          have hml : m < xs.length := by omega
          have c1 : wo.cell? ⟨b0, off + i, none⟩ = some (.int .i64 (m : Int)) := by
            have h5 := Hc0.out i hlt
            rw [(Hb.out.trans (hbl.mono hsw)).cell (p := ⟨b0, off + i, none⟩) (World.block_lt_of_cell? _ _ h5), h5]; simp only [iv, hm]
          have Hm := Lib.hid hm
          have HG0 := Lib.hid (flG_start xs i m hm)
          clear hx0 hm
          go_wp2_with fail
          clear c1
          go_loopg [7, 9] (xs.length - (m + 1)) (fun gg s7 s9 wr => ∃ j : Nat, m < j ∧ j ≤ xs.length ∧ gg = xs.length - j ∧ s9 = .int .i64 (j : Int) ∧ Below w1.heap.size w1 wr ∧ Hid (OwnI 3 wr w1.heap.size wr.heap.size s7 (nats (flF xs i ++ flG xs i j))))
          case atStart => exact ⟨m + 1, by omega, by omega, rfl, rfl, hbl, by show OwnI _ _ _ _ _ _; rw [HG0.out, List.append_nil]; exact HO.out⟩
          case round =>
            obtain ⟨j, hmj, hj, rfl, rfl, hbi, hO⟩ := hrel
            have HO := Lib.hid hO.out
            clear hO
            by_cases hjl : j < xs.length
            · have hjl2 : (j : Int) < (xs.length : Int) := by omega
              have hI : Ints wr (.slice (some ⟨b0, off, none⟩) i cap) (xs.take i) := ints_take (Hh.out.below (Hb.out.trans (hbi.mono hsw))) (by omega)
              have HI := Lib.hid hI
              have hcap : (i : Int) ≤ (cap : Int) := by omega
              clear hI
              cases hd : decide ((j : Int) ∈ xs.take i) with
              | true =>
                have HGn := Lib.hid (flG_no xs i j (of_decide_eq_true hd))
                have Hd := Lib.hid hd
                clear hd
                go_wp2_with fail
                refine (l1Has_any _ (xs.take i) (j : Int) _ HI.out).mono ?_
                rintro e w2 ⟨rfl, hq⟩
                rw [Hd.out]
                have hb2 := hq.below wr.heap.size
                clear hq
                go_wp2_with fail
                go_roundg (xs.length - (j + 1))
                case measure => omega
                case rel =>
                  refine ⟨j + 1, by omega, by omega, rfl, by go_num, hbi.trans (hb2.mono hbi.size), ?_⟩
                  show OwnI _ _ _ _ _ _
                  rw [HGn.out]
                  exact (HO.out.below hb2).mono (Nat.le_refl _) hb2.size
              | false =>
                have HGy := Lib.hid (flG_yes xs i j (by rw [Hm.out]; exact Int.ofNat_lt.2 hmj) (of_decide_eq_false hd))
                have Hd := Lib.hid hd
                clear hd
                go_wp2_with fail
                refine (l1Has_any _ (xs.take i) (j : Int) _ HI.out).mono ?_
                rintro e w2 ⟨rfl, hq⟩
                rw [Hd.out]
                have hb2 := hq.below wr.heap.size
                have hs2 := hq.size
                clear hq
                have hnn : i * xs.length ≤ 7 * 7 := Nat.mul_le_mul (by omega) hl7
                have hFl := flF_len xs hl7 i
                have hGl := flG_len xs i j
                have hLl : (flF xs i ++ flG xs i j).length ≤ 60 := by rw [List.length_append]; omega
                obtain ⟨L, hL⟩ : ∃ L, L = flF xs i ++ flG xs i j := ⟨_, rfl⟩
                obtain ⟨K, hK, H3, H4⟩ := mul_hid i xs.length (by omega)
                have hKl : K ≤ 49 := by omega
                have Hol := HO.out.below hb2
                rw [← hL] at Hol hLl
                have HL := Lib.hid hL
                have HK := Lib.hid hK
                have hol := Lib.hid Hol
                have Hl1 := Lib.hid (show (nats L).length + 1 ≤ maxLen by rw [nats_length]; unfold maxLen; omega)
                have Hl2 := Lib.hid (show ((nats L).length + 1) * 8 ≤ 140737488355328 by rw [nats_length]; omega)
                have Hbb := Lib.hid (hbi.trans (hb2.mono hbi.size))
                clear hK hnn hFl hGl hLl hL Hol
                have Hk1 := Lib.hid (show wrap64 ((K : Int) + (j : Int)) = (K : Int) + (j : Int) from w64 (by omega) (by omega))
                have Hk2 := Lib.hid (show IntKind.i64.wrap ((K : Int) + (j : Int)) = (K : Int) + (j : Int) from k64 (by omega) (by omega))
                have Hs1 := Lib.hid (show w1.heap.size ≤ (w2.alloc (.cells #[.int .i64 ((K : Int) + (j : Int))] 3)).heap.size by have := Hbb.out.size; rw [size_alloc]; omega)
                have Hs2 := Lib.hid (show wr.heap.size ≤ (w2.alloc (.cells #[.int .i64 ((K : Int) + (j : Int))] 3)).heap.size by rw [size_alloc]; omega)
                have h3 := H3.out
                have h4 := H4.out
                have h5 := Hk1.out
                have h6 := Hk2.out
                go_wp2_with (at_builtin; go_must (refine wpList_append_F rfl (.tmp 42) (.tmp 48) 22 rfl 3 (.int .i64 0) 8 Try.underlying22 info_int rfl w1.heap.size wr.heap.size _ (nats L).length _ rfl (hol.out.fn.below (below_alloc _ _)) Hs1.out Hs2.out _ _ _ rfl (rd_one _ _ _ hs2.symm) (fun j _ => rfl) Hl1.out Hl2.out ?_; clear h3 h4 h5 h6; intro v' w' ho' hg'))
                have hol2 := OwnI.snoc1 ho'
                have hgb := grownBy_below hg' (OwnF.blocks hol.out.fn) (Nat.le_refl _) Hs1.out
                have hsz := hg'.size
                simp only [size_alloc] at hsz
                go_roundg (xs.length - (j + 1))
                case measure => omega
                case rel =>
                  refine ⟨j + 1, by omega, by omega, rfl, by go_num, (Hbb.out.trans ((below_alloc _ _).mono Hbb.out.size)).trans hgb, ?_⟩
                  show OwnI _ _ _ _ _ _
                  rw [HGy.out, ← List.append_assoc, ← HL.out, nats_snoc, ← HK.out]
                  exact hol2
            · obtain rfl : j = xs.length := by omega
              have hjl2 : ¬ (xs.length : Int) < (xs.length : Int) := by omega
              go_wp2_with fail
              go_roundg (xs.length - (i + 1))
              case measure => omega
              case rel => exact ⟨i + 1, by omega, rfl, by go_num, hbi, by show OwnI _ _ _ _ _ _; rw [flF_succ]; exact HO.out⟩
        · obtain rfl : i = xs.length := by omega
          have hlt2 : ¬ (xs.length : Int) < (xs.length : Int) := by omega
          have hFl := flF_len xs hl7 xs.length
          have hFl2 : (flF xs xs.length).length ≤ 49 := by omega
          have hDl : (permRows xs).flatten.length = xs.length * xs.length := permRows_flat_length xs
          have hD49 : (permRows xs).flatten.length ≤ 49 := by rw [hDl]; exact Nat.mul_le_mul hl7 hl7
          have HD49 := Lib.hid hD49
          have Hmem := Lib.hid (show ∀ t ∈ flF xs xs.length, t < (permRows xs).flatten.length by intro t ht; rw [hDl]; exact flF_mem ht)
          have HI := Lib.hid (Hh.out.below (Hb.out.trans (hbl.mono hsw)))
          have Hpm := Lib.hid (permMx_yes Hp.out Hx.out)
          have Hbl := Lib.hid (Hb.out.trans (hbl.mono hsw))
          have HF2 := Lib.hid hFl2
          obtain ⟨D, hD⟩ : ∃ D, D = (permRows xs).flatten := ⟨_, rfl⟩
          obtain ⟨L, hL⟩ : ∃ L, L = flF xs xs.length := ⟨_, rfl⟩
          rw [← hD] at HD49 Hmem Hpm
          rw [← hL] at HF2 Hmem HO
          have HDe := Lib.hid hD
          have HLe := Lib.hid hL
          obtain ⟨pv, kv, rfl, _, _⟩ := HO.out.shape
          rw [nats_length] at HO ⊢
          clear hDl hD49 hFl hFl2 hD hL
          go_wp2_with fail

          refine (l7Power_any pn L.length _ (by omega) (by omega) (by have := HF2.out; omega)).mono ?_
          rintro e w' ⟨X, rfl, hX, hX1, hX2, rfl⟩
          by_cases hpw : pn ^ L.length ≤ 400
          · have hXl : X ≤ 400 := by rw [hX1 hpw]; exact hpw
            have hXi : ¬ (400 : Int) < (X : Int) := by omega
            have Hpw := Lib.hid hpw
            clear hX1 hX2 hpw
            go_wp2_with fail
            refine (l7Perm_any (pn : Int) _ xs _ HI.out Hx.out).mono ?_
            rw [← HDe.out]
            rintro e w2 ⟨u, rfl, ho, hb2⟩
            have Hoi := Lib.hid ho.ints
            obtain ⟨pd, kd, rfl, _, _⟩ := ho.shape
            have HO2 := Lib.hid (HO.out.below hb2)
            have Hb2 := Lib.hid hb2
            clear ho hb2
            go_wp2_with fail
            refine (l7Fill_any pn _ _ _ _ _ L _ Hoi.out HO2.out.ints (by omega) (by omega) Hmem.out HD49.out HF2.out Hpw.out).mono ?_
            rintro e w3 ⟨vr, rfl, hv, hb3⟩
            have hs1 := Hbl.out.size
            have hs2 := Hb2.out.size
            obtain ⟨pr, kr, rfl, _, _⟩ := hv.shape
            have Hv := Lib.hid hv
            have He := Lib.hid (show fillB (pn : Int) xs.length xs.length D L = (fillMs pn xs.length xs.length D L (pn ^ L.length), true) by unfold fillB; rw [Int.toNat_natCast, if_pos Hpw.out])
            clear hv
            go_wp2_with fail
            go_ret2
            have e1 := HDe.out
            have e2 := HLe.out
            subst e1 e2
            rw [He.out]
            exact ⟨_, rfl, Hv.out.mono (by omega) (Nat.le_refl _), (Hbl.out.trans (Hb2.out.mono hs1)).trans (hb3.mono (by omega))⟩
          · have hXl : 400 < X := hX2 (by omega)
            have hXi : (400 : Int) < (X : Int) := by omega
            have He := Lib.hid (show fillB (pn : Int) xs.length xs.length D L = ([], false) by unfold fillB; rw [Int.toNat_natCast, if_neg hpw])
            clear hX1 hX2 hpw
            go_wp2_with fail
            go_ret2
            have e1 := HDe.out
            have e2 := HLe.out
            subst e1 e2
            rw [He.out]
            exact ⟨_, rfl, OwnMs.nil _ _ _, Hbl.out⟩

end Go.Proofs.Ytejoapielndnnaa
