/-
  SpacesWith: all spaces with a string.
-/
import Derived.Test.YtejoapielndnnaaSpP
namespace Go.Proofs.Ytejoapielndnnaa
set_option linter.all false
open Go.RowKit

theorem RowsN.setLow {w : World} {lo hi N : Nat} {f : Nat → Value} {L : Nat → List Int} (h : RowsN w lo hi N f L) {a : Addr} (ha : a.block < lo) (u : Value) : RowsN (w.setCell a u) lo hi N f L :=
  ⟨fun i hi => OwnI.setCell (h.1 i hi) (.inl ha) u, h.2⟩
theorem RowsN.fewer {w : World} {lo hi N M : Nat} {f : Nat → Value} {L : Nat → List Int} (h : RowsN w lo hi N f L) (hM : M ≤ N) : RowsN w lo hi M f L :=
  ⟨fun i hi => h.1 i (by omega), fun i j hi hj => h.2 i j (by omega) (by omega)⟩
theorem RowsN.belowM {w w' : World} {lo hi N : Nat} {f : Nat → Value} {L : Nat → List Int} (h : RowsN w lo hi N f L) (hb : Below w.heap.size w w') (hh : hi ≤ w.heap.size) : RowsN w' lo w'.heap.size N f L :=
  (h.below hb).mono (Nat.le_trans hh hb.size)

/-- free places and rows: slice by slice -/
def spL (s : List Int) (i : Nat) (free : List Nat) (t : Nat) : List Int := if t = 0 then nats free else (spR s i).getD (t - 1) []
def spLr (s : List Int) (i : Nat) (free : List Nat) (t : Nat) : List Int := if t = (spR s i).length + 1 then unitRow s.length i else spL s i free t
/-- what the loop holds: the free places and the rows, each in a block of its own -/
def SpI (w wr : World) (s : List Int) (i : Nat) (free : List Nat) (s6 s7 : Value) : Prop :=
  ∃ f, f 0 = s7 ∧ RowsN wr w.heap.size wr.heap.size ((spR s i).length + 1) f (spL s i free) ∧ OwnF wr w.heap.size wr.heap.size 22 s6 (spR s i).length (fun t => f (t + 1))
/-- .. a row besides, not yet behind the others -/
def SpIr (w wr : World) (s : List Int) (i : Nat) (free : List Nat) (s6 s7 row : Value) : Prop :=
  ∃ f, f 0 = s7 ∧ f ((spR s i).length + 1) = row ∧ RowsN wr w.heap.size wr.heap.size ((spR s i).length + 2) f (spLr s i free) ∧ OwnF wr w.heap.size wr.heap.size 22 s6 (spR s i).length (fun t => f (t + 1))
theorem SpI.start (w : World) (s : List Int) : SpI w ((w.alloc (.cells #[] 22)).alloc (.cells #[] 3)) s 0 [] (.slice (some ⟨w.heap.size, 0, none⟩) 0 0) (.slice (some ⟨w.heap.size + 1, 0, none⟩) 0 0) := by
  refine ⟨fun _ => .slice (some ⟨w.heap.size + 1, 0, none⟩) 0 0, rfl, ⟨fun i hi => ?_, fun i j hi hj => ?_⟩, ?_⟩
  · have hi' : i = 0 := by simp [spR] at hi; omega
    subst hi'
    have h := OwnF.made0 (w.alloc (.cells #[] 22)) 3 (iv [])
    rw [size_alloc] at h
    exact h.ints.mono (by omega) (by simp)
  · simp [spR] at hi hj; omega
  · have h := (OwnF.made0 w 22 (fun t => Value.slice (some ⟨w.heap.size + 1, 0, none⟩) 0 0)).below (below_alloc _ (.cells #[] 3))
    exact h.mono (Nat.le_refl _) (by simp)
theorem SpI.zero {w wr : World} {s : List Int} {i : Nat} {free : List Nat} {s6 s7 : Value} (h : SpI w wr s i free s6 s7) (e : s.getD i 0 = 0) : SpI w wr s (i + 1) free s6 s7 := by
  unfold SpI spL at h ⊢
  rw [spR_zero e]; exact h
theorem SpI.free {w wr : World} {s : List Int} {i : Nat} {free : List Nat} {s6 s7 : Value} (h : SpI w wr s i free s6 s7) : OwnI 3 wr w.heap.size wr.heap.size s7 (nats free) := by
  obtain ⟨f, h0, h1, _⟩ := h
  have := h1.1 0 (by omega)
  rw [h0] at this
  exact this
theorem SpIr.free {w wr : World} {s : List Int} {i : Nat} {free : List Nat} {s6 s7 row : Value} (h : SpIr w wr s i free s6 s7 row) : OwnI 3 wr w.heap.size wr.heap.size s7 (nats free) := by
  obtain ⟨f, h0, hr, h1, _⟩ := h
  have := h1.1 0 (by omega)
  rw [h0] at this
  have e : spLr s i free 0 = nats free := by simp [spLr, spL]
  rw [e] at this
  exact this
theorem SpI.shape {w wr : World} {s : List Int} {i : Nat} {free : List Nat} {s6 s7 : Value} (h : SpI w wr s i free s6 s7) : ∃ p k, s6 = .slice p (spR s i).length k ∧ (spR s i).length ≤ k ∧ k ≤ maxLen := by
  obtain ⟨f, h0, h1, h2⟩ := h
  obtain ⟨p, k, e, h3, h4, _⟩ := h2.shape
  exact ⟨p, k, e, h3, h4⟩
theorem SpI.pend {w wr w1 : World} {s : List Int} {i : Nat} {free : List Nat} {s6 s7 row : Value} (h : SpI w wr s i free s6 s7) (hb : Below wr.heap.size wr w1) (hs : w.heap.size ≤ wr.heap.size)
    (hr : OwnI 3 w1 wr.heap.size w1.heap.size row (unitRow s.length i)) : SpIr w w1 s i free s6 s7 row := by
  obtain ⟨f, h0, h1, h2⟩ := h
  refine ⟨fun t => if t < (spR s i).length + 1 then f t else row, by simp [h0], by simp, ?_, ?_⟩
  · refine (RowsN.snoc (h1.below hb) hr hs hb.size).congr (fun t ht => rfl) fun t ht => ?_
    unfold spLr
    by_cases e : t = (spR s i).length + 1
    · subst e; simp
    · rw [if_neg e, if_pos (by omega)]
  · refine ((h2.below hb).mono (Nat.le_refl _) hb.size).congr fun t ht => ?_
    show f (t + 1) = if t + 1 < (spR s i).length + 1 then f (t + 1) else row
    rw [if_pos (by omega)]
theorem SpIr.below {w wr w' : World} {s : List Int} {i : Nat} {free : List Nat} {s6 s7 row : Value} (h : SpIr w wr s i free s6 s7 row) (hb : Below wr.heap.size wr w') : SpIr w w' s i free s6 s7 row := by
  obtain ⟨f, h0, hr, h1, h2⟩ := h
  exact ⟨f, h0, hr, h1.belowM hb (Nat.le_refl _), (h2.below hb).mono (Nat.le_refl _) hb.size⟩
theorem SpIr.app {w wr w' : World} {s : List Int} {i x : Nat} {free : List Nat} {s6 s7 u row : Value} (h : SpIr w wr s i free s6 s7 row)
    (ho : OwnI 3 w' w.heap.size w'.heap.size u (nats (free ++ [x]))) (hg : wr.grownBy w' s7.ownBlock) (hn : ∀ b, u.ownBlock = some b → s7.ownBlock = some b ∨ wr.heap.size ≤ b) : SpIr w w' s i (free ++ [x]) s6 u row := by
  obtain ⟨f, h0, hr, h1, h2⟩ := h
  rw [← h0] at hg hn
  have hN := h1.set (k := 0) (by omega) (Nat.le_refl _) ho hg hn
  refine ⟨fun t => if t = 0 then u else f t, by simp, by simp [hr], hN.congr (fun t ht => rfl) fun t ht => ?_, ?_⟩
  · by_cases e : t = 0
    · subst e; simp [spLr, spL]
    · simp [spLr, spL, e]
  · refine ((h2.grown hg fun b hb => ?_).mono (Nat.le_refl _) hg.size).congr fun t ht => by simp
    intro e
    exact OwnF.apart (h1.1 0 (by omega)).fn h2 (by decide) b e hb
theorem SpIr.outer {w wr w' : World} {s : List Int} {i : Nat} {free : List Nat} {s6 s7 v row : Value} {f : Nat → Value} (h0 : f 0 = s7) (hr : f ((spR s i).length + 1) = row)
    (h1 : RowsN wr w.heap.size wr.heap.size ((spR s i).length + 2) f (spLr s i free)) (h2 : OwnF wr w.heap.size wr.heap.size 22 s6 (spR s i).length (fun t => f (t + 1))) (e : ¬ s.getD i 0 = 0)
    (hv : OwnF w' w.heap.size w'.heap.size 22 v ((spR s i).length + 1) (fun j => if j < (spR s i).length then f (j + 1) else row)) (hg : wr.grownBy w' s6.ownBlock) : SpI w w' s (i + 1) free v s7 := by
  have hN := (h1.grown h2 hg).mono hg.size
  unfold SpI spL
  rw [spR_one e, List.length_append, List.length_singleton]
  refine ⟨f, h0, hN.congr (fun t ht => rfl) fun t ht => ?_, hv.congr fun t ht => ?_⟩
  · unfold spLr spL
    by_cases e0 : t = 0
    · subst e0; simp
    · rw [if_neg e0]
      by_cases e1 : t = (spR s i).length + 1
      · subst e1; simp [List.getD_eq_getElem?_getD]
      · rw [if_neg e1, if_neg e0, List.getD_eq_getElem?_getD, List.getD_eq_getElem?_getD, List.getElem?_append_left (by omega)]
  · by_cases hlt : t < (spR s i).length
    · simp [hlt]
    · have : t = (spR s i).length := by omega
      subst this; simp [hr]
theorem SpI.rd {w wr : World} {s : List Int} {i : Nat} {free : List Nat} {s6 s7 : Value} (h : SpI w wr s i free s6 s7) : RdII wr s6 (spR s i) := by
  obtain ⟨f, h0, h1, h2⟩ := h
  refine ⟨_, h2.rd, fun j hj => ?_⟩
  have := (h1.1 (j + 1) (by omega)).ints
  unfold spL at this
  simpa using this
/-- a row of zeros with 1 at place i, just made -/
theorem made_unit (wr : World) (n i : Nat) (h : i < n) (hn : n ≤ 1000) : OwnI 3 (wr.alloc (.cells ((madeCells #[Value.int .i64 0] n).setIfInBounds i (.int .i64 1)) 3)) wr.heap.size (wr.heap.size + 1) (.slice (some ⟨wr.heap.size, 0, none⟩) n n) (unitRow n (i : Int)) := by
  have hu := unitRow_length n (i : Int)
  refine OwnF.ints ?_
  rw [hu]
  have hr0 : World.rowIs (wr.alloc (.cells ((madeCells #[Value.int .i64 0] n).setIfInBounds i (.int .i64 1)) 3)) wr.heap.size 3 n (fun j => .int .i64 (if j = i then 1 else 0)) := by
    have := World.rowIs_alloc wr ((madeCells #[Value.int .i64 0] n).setIfInBounds i (.int .i64 1)) 3 (fun j => .int .i64 (if j = i then 1 else 0)) (fun k hk => by
      simp [madeCells] at hk
      by_cases e : k = i
      · subst e; simp [madeCells, h]
      · simp [madeCells, Array.getElem?_setIfInBounds, hk, e, Nat.mod_one, show ¬ i = k by omega])
    simpa [madeCells] using this
  refine OwnF.mk' hr0 (Nat.le_refl _) (by omega) (Nat.le_refl _) (by unfold maxLen; omega) fun j hj => ?_
  rw [iv, unitRow_getD hj]
  by_cases e : j = i
  · subst e; simp
  · rw [if_neg e, if_neg (by omega)]

set_option maxRecDepth 100000 in
set_option maxHeartbeats 4000000 in
theorem implSpacesWith_any (p : Int) (v : Value) (s : List Int) (w : World) (h : Ints w v s) :
    Calls Try.prog 15 #[.int .i64 p, v] w (RetMsB w (spMs p s)) := by
  have Hh := Lib.hid h
  cases hp : primeOk p with
  | false =>
    rw [spMs_no (.inl hp)]
    have Hp := Lib.hid hp
    clear hp h
    go_enter Try.func15, Try.ntmps15
    go_wp2_with (go_at_call 41; refine (isPrime_b _ _ Hp.out _).mono ?_; rintro e w' ⟨rfl, rfl⟩)
    go_ret2
    exact ⟨_, rfl, OwnMs.nil _ _ _, Below.refl _ _⟩
  | true =>
    have Hp := Lib.hid hp
    obtain ⟨hp2, hp7⟩ := primeOk_range hp
    cases hx : strOk s with
    | false =>
      rw [spMs_no (.inr hx)]
      have Hx := Lib.hid hx
      clear hp hx h
      go_enter Try.func15, Try.ntmps15
      go_wp2_with (first
        | (go_at_call 41; refine (isPrime_b _ _ Hp.out _).mono ?_; rintro e w' ⟨rfl, rfl⟩)
        | (go_at_call 42; refine (implIsString_b _ s _ Hx.out _ Hh.out).mono ?_; rintro e w1 ⟨rfl, rfl⟩))
      go_ret2
      exact ⟨_, rfl, OwnMs.nil _ _ _, Below.refl _ _⟩
    | true =>
      rw [spMs_yes hp hx]
      have Hx := Lib.hid hx
      obtain ⟨hl1, hl7, hr⟩ := of_decide_eq_true hx
      have Hr := Lib.hid hr
      obtain ⟨q, cap, rfl, ⟨hx1, hx2⟩, hxc⟩ := h
      obtain ⟨b0, off, rfl, hc0⟩ := hxc (by omega)
      unfold maxLen at hx2
      have Hc0 := Lib.hid hc0
      have Hst := Lib.hid (SpI.start w s)
      have Hb0 := Lib.hid (below_alloc2 w (.cells #[] 22) (.cells #[] 3))
      clear hp hx hr hxc hc0
      go_enter Try.func15, Try.ntmps15
      go_wp2_with (first
        | (go_at_call 41; refine (isPrime_b _ _ Hp.out _).mono ?_; rintro e w' ⟨rfl, rfl⟩)
        | (go_at_call 42; refine (implIsString_b _ s _ Hx.out _ Hh.out).mono ?_; rintro e w1 ⟨rfl, rfl⟩))
      have hmk := run_make_row' (P := Try.prog) 22 3 (.int .i64 0) 8 Try.underlying22 info_int rfl .i64 .i64 s.length (by omega) (by omega)
      have Hmk := Lib.hid hmk
      clear hmk
      go_loopg [6, 7, 24] s.length (fun gg s6 s7 s24 wr => ∃ i : Nat, i ≤ s.length ∧ gg = s.length - i ∧ s24 = .int .i64 i ∧ Below w.heap.size w wr ∧ Hid (SpI w wr s i (spF s i) s6 s7))
      case atStart => exact ⟨0, Nat.zero_le _, rfl, rfl, Hb0.out, Hst.out⟩
      case round =>
        obtain ⟨i, hi, rfl, rfl, hbl, hO⟩ := hrel
        obtain ⟨wo, rfl⟩ : ∃ x : World, x = wr := ⟨_, rfl⟩
        have HO := Lib.hid hO.out
        clear hO
        have hsw := hbl.size
        by_cases hlt : i < s.length
        · have hlt2 : (i : Int) < (s.length : Int) := by omega
          have hlt3 : (0 : Int) ≤ (i : Int) := by omega
          have c1 : wo.cell? ⟨b0, off + i, none⟩ = some (.int .i64 (s.getD i 0)) := by
            have h5 := Hc0.out i hlt
            rw [hbl.cell (p := ⟨b0, off + i, none⟩) (World.block_lt_of_cell? _ _ h5), h5]; rfl
          rcases Hr.out _ (getD_mem hlt) with e0 | e0
          · rw [e0] at c1
            have E0 := Lib.hid e0
            clear e0
            go_wp2_with fail
            go_roundg (s.length - (i + 1))
            case measure => omega
            case rel => exact ⟨i + 1, by omega, rfl, by go_num, hbl, by show SpI _ _ _ _ _ _ _; rw [spF_zero E0.out]; exact HO.out.zero E0.out⟩
          · rw [e0] at c1
            have E0 := Lib.hid (show ¬ s.getD i 0 = 0 by rw [e0]; omega)
            clear e0
            obtain ⟨p6, k6, rfl, hk61, hk62⟩ := HO.out.shape
            unfold maxLen at hk62
            obtain ⟨R, hR⟩ : ∃ R, R = (spR s i).length := ⟨_, rfl⟩
            have hRi : R ≤ i := by rw [hR]; exact spR_len s i
            rw [← hR] at hk61 HO ⊢
            have HR := Lib.hid hR
            have hmk := Hmk.out
            have hcm : (madeCells #[Value.int .i64 0] s.length)[i]? = some (.int .i64 0) := by simp [madeCells, hlt, Nat.mod_one]
            clear hR
            go_wp2_with fail
            clear hmk hcm c1
            obtain ⟨w1, hw1⟩ : ∃ x, x = wo.alloc (.cells ((madeCells #[Value.int .i64 0] s.length).setIfInBounds i (.int .i64 1)) 3) := ⟨_, rfl⟩
            have hrow := made_unit wo s.length i hlt (by omega)
            have hb1 := below_alloc wo (.cells ((madeCells #[Value.int .i64 0] s.length).setIfInBounds i (.int .i64 1)) 3)
            rw [← hw1] at hrow hb1 ⊢
            have hs1 : w1.heap.size = wo.heap.size + 1 := by rw [hw1, size_alloc]
            rw [← hs1] at hrow
            have HI := Lib.hid (HO.out.pend hb1 hsw hrow)
            have HG0 := Lib.hid (spG_start s R i)
            have hbl1 : Below w.heap.size w w1 := hbl.trans (hb1.mono hsw)
            clear hw1 hrow hb1 hs1
            go_loopg [7, 11] (s.length - (i + 1)) (fun gg s7 s11 wr => ∃ j : Nat, i < j ∧ j ≤ s.length ∧ gg = s.length - j ∧ s11 = .int .i64 (j : Int) ∧ Below w.heap.size w wr ∧ Hid (SpIr w wr s i (spF s i ++ spG s R i j) (.slice p6 R k6) s7 (.slice (some ⟨wo.heap.size, 0, none⟩) s.length s.length)))
            case atStart => exact ⟨i + 1, by omega, by omega, rfl, rfl, hbl1, by show SpIr _ _ _ _ _ _ _ _; rw [HG0.out, List.append_nil]; exact HI.out⟩
            case round =>
              obtain ⟨j, hij, hj, rfl, rfl, hbi, hO⟩ := hrel
              have HJ := Lib.hid hO.out
              clear hO
              by_cases hjl : j < s.length
              · have hjl2 : (j : Int) < (s.length : Int) := by omega
                have c2 : wr.cell? ⟨b0, off + j, none⟩ = some (.int .i64 (s.getD j 0)) := by
                  have h5 := Hc0.out j hjl
                  rw [hbi.cell (p := ⟨b0, off + j, none⟩) (World.block_lt_of_cell? _ _ h5), h5]; rfl
                rcases Hr.out _ (getD_mem hjl) with e1 | e1
                · rw [e1] at c2
                  have HGy := Lib.hid (spG_yes s R i j hij e1)
                  clear e1
                  have hnn : R * s.length ≤ 7 * 7 := Nat.mul_le_mul (by omega) hl7
                  obtain ⟨L, hL⟩ : ∃ L, L = spF s i ++ spG s R i j := ⟨_, rfl⟩
                  have hLl : L.length ≤ 60 := by
                    have h1 := spF_len s hl7 i
                    have h2 := spG_len s R i j
                    rw [hL, List.length_append]; omega
                  obtain ⟨K, hK, H3, H4⟩ := mul_hid R s.length (by omega)
                  have hKl : K ≤ 49 := by omega
                  have hfr := HJ.out.free
                  rw [← hL] at hfr
                  have HL := Lib.hid hL
                  have HK := Lib.hid hK
                  have hol := Lib.hid hfr
                  have Hl1 := Lib.hid (show (nats L).length + 1 ≤ maxLen by rw [nats_length]; unfold maxLen; omega)
                  have Hl2 := Lib.hid (show ((nats L).length + 1) * 8 ≤ 140737488355328 by rw [nats_length]; omega)
                  have Hk1 := Lib.hid (show wrap64 ((K : Int) + (j : Int)) = (K : Int) + (j : Int) from w64 (by omega) (by omega))
                  have Hk2 := Lib.hid (show IntKind.i64.wrap ((K : Int) + (j : Int)) = (K : Int) + (j : Int) from k64 (by omega) (by omega))
                  have Hs1 := Lib.hid (show w.heap.size ≤ (wr.alloc (.cells #[.int .i64 ((K : Int) + (j : Int))] 3)).heap.size by have := hbi.size; rw [size_alloc]; omega)
                  have Hs2 := Lib.hid (show wr.heap.size ≤ (wr.alloc (.cells #[.int .i64 ((K : Int) + (j : Int))] 3)).heap.size by rw [size_alloc]; omega)
                  clear hK hnn hLl hL hfr
                  have h3 := H3.out
                  have h4 := H4.out
                  have h5 := Hk1.out
                  have h6 := Hk2.out
                  go_wp2_with (at_builtin; go_must (refine wpList_append_G rfl (.tmp 50) (.tmp 58) 22 rfl 3 (.int .i64 0) 8 Try.underlying22 info_int rfl w.heap.size wr.heap.size _ (nats L).length _ rfl (hol.out.fn.below (below_alloc _ _)) Hs1.out Hs2.out _ _ _ rfl (rd_one _ _ _ rfl) (fun j _ => rfl) Hl1.out Hl2.out ?_; clear h3 h4 h5 h6; intro v' w' ho' hg' hwh'))
                  have hol2 := OwnI.snoc1 ho'
                  have hgb := grownBy_below hg' (OwnF.blocks hol.out.fn) (Nat.le_refl _) Hs1.out
                  go_roundg (s.length - (j + 1))
                  case measure => omega
                  case rel =>
                    refine ⟨j + 1, by omega, by omega, rfl, by go_num, (hbi.trans ((below_alloc _ _).mono hbi.size)).trans hgb, ?_⟩
                    show SpIr _ _ _ _ _ _ _ _
                    rw [HGy.out, ← List.append_assoc, ← HK.out]
                    refine SpIr.app (HJ.out.below (below_alloc _ _)) ?_ hg' hwh'
                    rw [← HL.out, nats_snoc]
                    exact hol2
                · rw [e1] at c2
                  have HGn := Lib.hid (spG_no s R i j (by rw [e1]; omega))
                  clear e1
                  go_wp2_with fail
                  go_roundg (s.length - (j + 1))
                  case measure => omega
                  case rel => exact ⟨j + 1, by omega, by omega, rfl, by go_num, hbi, by show SpIr _ _ _ _ _ _ _ _; rw [HGn.out]; exact HJ.out⟩
              · obtain rfl : j = s.length := by omega
                have hjl2 : ¬ (s.length : Int) < (s.length : Int) := by omega
                have HJ2 := Lib.hid (HJ.out.below (below_alloc wr (.cells #[.slice (some ⟨wo.heap.size, 0, none⟩) s.length s.length] 22)))
                obtain ⟨f, hf0, hfr, hfN, hfO⟩ := HJ2.out
                have Hf0 := Lib.hid hf0
                have Hfr := Lib.hid hfr
                have HfN := Lib.hid hfN
                have HfO2 := Lib.hid hfO
                rw [← HR.out] at hfO
                have HfO := Lib.hid hfO
                have Hl1 := Lib.hid (show R + 1 ≤ maxLen by unfold maxLen; omega)
                have Hl2 := Lib.hid (show (R + 1) * 24 ≤ 140737488355328 by omega)
                have Hs1 := Lib.hid (show w.heap.size ≤ (wr.alloc (.cells #[.slice (some ⟨wo.heap.size, 0, none⟩) s.length s.length] 22)).heap.size by have := hbi.size; rw [size_alloc]; omega)
                clear hf0 hfr hfN hfO
                go_wp2_with (at_builtin; go_must (refine wpList_append_F rfl (.tmp 60) (.tmp 62) 63 rfl 22 (.slice none 0 0) 24 Try.underlying63 info_sl rfl w.heap.size _ _ R _ rfl HfO.out Hs1.out (Nat.le_refl _) _ _ _ rfl (rd_one _ _ _ rfl) (fun j _ => rfl) Hl1.out Hl2.out ?_; intro v' w' ho' hg'))
                have hgb := grownBy_below hg' (OwnF.blocks HfO.out) (Nat.le_refl _) Hs1.out
                go_roundg (s.length - (i + 1))
                case measure => omega
                case rel =>
                  refine ⟨i + 1, by omega, rfl, by go_num, (hbi.trans ((below_alloc _ _).mono hbi.size)).trans hgb, ?_⟩
                  show SpI _ _ _ _ _ _ _
                  rw [spF_one E0.out, ← HR.out]
                  have ho2 := ho'
                  rw [HR.out] at ho2
                  exact SpIr.outer Hf0.out Hfr.out HfN.out HfO2.out E0.out ho2 hg'
        · obtain rfl : i = s.length := by omega
          have hlt2 : ¬ (s.length : Int) < (s.length : Int) := by omega
          have hFl := spF_len s hl7 s.length
          have HF2 := Lib.hid (show (spF s s.length).length ≤ 49 by omega)
          have HD49 := Lib.hid (spR_49 hl7)
          have HD6 := Lib.hid (show (spR s s.length).flatten.length ≤ 1000000 from Nat.le_trans (spR_49 hl7) (by omega))
          have Hmem := Lib.hid (show ∀ t ∈ spF s s.length, t < (spR s s.length).flatten.length by rw [spR_flat]; exact spF_mem s s.length)
          have HII := Lib.hid HO.out.rd
          have Hfr := Lib.hid HO.out.free
          obtain ⟨pv, kv, rfl, _, _⟩ := Hfr.out.shape
          obtain ⟨D, hD⟩ : ∃ D, D = (spR s s.length).flatten := ⟨_, rfl⟩
          obtain ⟨L, hL⟩ : ∃ L, L = spF s s.length := ⟨_, rfl⟩
          have HM := fun u w2 => matrixOf_any p (s.length : Int) u (spR s s.length) w2
          rw [← hD] at HD49 Hmem HD6 HM
          rw [← hL] at HF2 Hmem Hfr ⊢
          rw [nats_length] at Hfr ⊢
          have HDe := Lib.hid hD
          have HLe := Lib.hid hL
          have HM := Lib.hid HM
          clear hFl hD hL
          go_wp2_with fail
          refine (HM.out _ _ HII.out HD6.out).mono ?_
          rintro e w2 ⟨u, rfl, ho, hb2⟩
          dsimp only at ho ⊢
          have Hoi := Lib.hid ho.ints
          obtain ⟨pd, kd, rfl, _, _⟩ := ho.shape
          have Hf2 := Lib.hid (Hfr.out.below hb2)
          have Hb2 := Lib.hid hb2
          clear ho hb2
          go_wp2_with fail
          refine (matricesWith_any p _ _ _ _ _ L _ Hp.out Hoi.out Hf2.out.ints Hmem.out HD49.out HF2.out).mono ?_
          rintro e w3 ⟨vr, rfl, hv, hb3⟩
          have hs1 := Hb2.out.size
          obtain ⟨pr, kr, rfl, _, _⟩ := hv.shape
          have Hv := Lib.hid hv
          clear hv
          go_wp2_with fail
          go_ret2
          have e1 := HDe.out
          have e2 := HLe.out
          subst e1 e2
          exact ⟨_, rfl, Hv.out.mono (by omega) (Nat.le_refl _), (hbl.trans (Hb2.out.mono hsw)).trans (hb3.mono (by omega))⟩

/-! ### the reference -/
def spD (s : List Int) (i : Nat) (free : List Nat) (t : Nat) : List Int := if t = 0 then nats free else (spR s i).flatten
def spDr (s : List Int) (i : Nat) (free : List Nat) (t : Nat) : List Int := if t = 2 then unitRow s.length i else spD s i free t
/-- the free places, the matrix's numbers (a slice in the box at q + 1), each in a block of its own; the result's box at q -/
def SpS (q : Nat) (wr : World) (s : List Int) (i : Nat) (free : List Nat) (s6 : Value) : Prop :=
  ∃ f, f 0 = s6 ∧ wr.heap[q + 1]? = some (.cells #[.int .i64 0, .int .i64 ((spR s i).length : Int), .int .i64 (s.length : Int), f 1] 27) ∧
    wr.heap[q]? = some (.cells #[.int .i64 0, .int .i64 0, .int .i64 0, .slice none 0 0] 27) ∧ RowsN wr (q + 2) wr.heap.size 2 f (spD s i free)
def SpSr (q : Nat) (wr : World) (s : List Int) (i : Nat) (free : List Nat) (s6 row : Value) : Prop :=
  ∃ f, f 0 = s6 ∧ f 2 = row ∧ wr.heap[q + 1]? = some (.cells #[.int .i64 0, .int .i64 ((spR s i).length : Int), .int .i64 (s.length : Int), f 1] 27) ∧
    wr.heap[q]? = some (.cells #[.int .i64 0, .int .i64 0, .int .i64 0, .slice none 0 0] 27) ∧ RowsN wr (q + 2) wr.heap.size 3 f (spDr s i free)
theorem SpS.start (w : World) (s : List Int) : SpS w.heap.size (((w.alloc (.cells #[.int .i64 0, .int .i64 0, .int .i64 0, .slice none 0 0] 27)).alloc (.cells #[.int .i64 0, .int .i64 0, .int .i64 (s.length : Int), .slice none 0 0] 27)).alloc (.cells #[] 3)) s 0 [] (.slice (some ⟨w.heap.size + 1 + 1, 0, none⟩) 0 0) := by
  refine ⟨fun t => if t = 0 then .slice (some ⟨w.heap.size + 1 + 1, 0, none⟩) 0 0 else .slice none 0 0, rfl, ?_, ?_, ⟨fun i hi => ?_, fun i j hi hj hij b => ?_⟩⟩
  · rw [heap_alloc_low _ _ (by simp)]; exact heap_alloc_at _ _ (by simp)
  · rw [heap_alloc_low _ _ (by simp; omega), heap_alloc_low _ _ (by simp)]; exact heap_alloc_top _ _
  · by_cases e : i = 0
    · subst e
      have h := OwnF.made0 ((w.alloc (.cells #[.int .i64 0, .int .i64 0, .int .i64 0, .slice none 0 0] 27)).alloc (.cells #[.int .i64 0, .int .i64 0, .int .i64 (s.length : Int), .slice none 0 0] 27)) 3 (iv [])
      rw [size_alloc, size_alloc] at h
      exact h.ints.mono (Nat.le_refl _) (by simp)
    · simp only [e, if_false]
      unfold spD
      rw [if_neg e]
      exact ⟨World.ownsRow_nil _ _ _ _, fun k hk => by simp [Value.ownBlock] at hk⟩
  · by_cases e : i = 0
    · subst e
      have : ¬ j = 0 := by omega
      simp [this, Value.ownBlock]
    · simp [e, Value.ownBlock]
theorem SpS.zero {q : Nat} {wr : World} {s : List Int} {i : Nat} {free : List Nat} {s6 : Value} (h : SpS q wr s i free s6) (e : s.getD i 0 = 0) : SpS q wr s (i + 1) free s6 := by
  unfold SpS spD at h ⊢
  rw [spR_zero e]; exact h
theorem SpS.pend {q : Nat} {wr w1 : World} {s : List Int} {i : Nat} {free : List Nat} {s6 row : Value} (h : SpS q wr s i free s6) (hb : Below wr.heap.size wr w1)
    (hr : OwnI 3 w1 wr.heap.size w1.heap.size row (unitRow s.length i)) : SpSr q w1 s i free s6 row := by
  obtain ⟨f, h0, hm, hz, h1⟩ := h
  have := blk_lt hm
  refine ⟨fun t => if t < 2 then f t else row, by simp [h0], by simp, by simpa using blk_later hm hb, blk_later hz hb, ?_⟩
  refine (RowsN.snoc (h1.below hb) hr (by omega) hb.size).congr (fun t ht => rfl) fun t ht => ?_
  unfold spDr
  by_cases e : t = 2
  · subst e; simp
  · rw [if_neg e, if_pos (by omega)]
theorem SpSr.free {q : Nat} {wr : World} {s : List Int} {i : Nat} {free : List Nat} {s6 row : Value} (h : SpSr q wr s i free s6 row) : OwnI 3 wr (q + 2) wr.heap.size s6 (nats free) := by
  obtain ⟨f, h0, _, _, _, h1⟩ := h
  have := h1.1 0 (by omega)
  rw [h0] at this
  have e : spDr s i free 0 = nats free := by simp [spDr, spD]
  rw [e] at this
  exact this
theorem SpSr.below {q : Nat} {wr w' : World} {s : List Int} {i : Nat} {free : List Nat} {s6 row : Value} (h : SpSr q wr s i free s6 row) (hb : Below wr.heap.size wr w') : SpSr q w' s i free s6 row := by
  obtain ⟨f, h0, hr, hm, hz, h1⟩ := h
  exact ⟨f, h0, hr, blk_later hm hb, blk_later hz hb, h1.belowM hb (Nat.le_refl _)⟩
theorem SpSr.app {q : Nat} {wr w' : World} {s : List Int} {i x : Nat} {free : List Nat} {s6 u row : Value} (h : SpSr q wr s i free s6 row)
    (ho : OwnI 3 w' (q + 2) w'.heap.size u (nats (free ++ [x]))) (hg : wr.grownBy w' s6.ownBlock) (hn : ∀ b, u.ownBlock = some b → s6.ownBlock = some b ∨ wr.heap.size ≤ b) : SpSr q w' s i (free ++ [x]) u row := by
  obtain ⟨f, h0, hr, hm, hz, h1⟩ := h
  rw [← h0] at hg hn
  have hN := h1.set (k := 0) (by omega) (Nat.le_refl _) ho hg hn
  have hne : ∀ b, some b = (f 0).ownBlock → q + 2 ≤ b := fun b hb => (Own.block (h1.1 0 (by omega)) hb.symm).1
  refine ⟨fun t => if t = 0 then u else f t, by simp, by simp [hr], ?_, ?_, hN.congr (fun t ht => rfl) fun t ht => ?_⟩
  · simp only [show ¬ (1 = 0) by omega, if_false]
    rw [hg.block _ (blk_lt hm) fun e => by have := hne _ e; omega]; exact hm
  · rw [hg.block _ (blk_lt hz) fun e => by have := hne _ e; omega]; exact hz
  · by_cases e : t = 0
    · subst e; simp [spDr, spD]
    · simp [spDr, spD, e]
/-- the row is put behind the matrix's numbers -/
theorem SpSr.outer {q : Nat} {wr w' : World} {s : List Int} {i : Nat} {free : List Nat} {s6 v : Value} {f : Nat → Value} (h0 : f 0 = s6)
    (hm : wr.heap[q + 1]? = some (.cells #[.int .i64 0, .int .i64 ((spR s i).length : Int), .int .i64 (s.length : Int), f 1] 27))
    (hz : wr.heap[q]? = some (.cells #[.int .i64 0, .int .i64 0, .int .i64 0, .slice none 0 0] 27)) (h1 : RowsN wr (q + 2) wr.heap.size 3 f (spDr s i free)) (e : ¬ s.getD i 0 = 0)
    (ho : OwnI 3 w' (q + 2) w'.heap.size v ((spR s i).flatten ++ unitRow s.length i)) (hg : wr.grownBy w' (f 1).ownBlock) (hn : ∀ b, v.ownBlock = some b → (f 1).ownBlock = some b ∨ wr.heap.size ≤ b) :
    SpS q ((w'.setCell ⟨q + 1, 3, none⟩ v).setCell ⟨q + 1, 1, none⟩ (.int .i64 (((spR s i).length : Int) + 1))) s (i + 1) free s6 := by
  have hN := h1.set (k := 1) (by omega) (Nat.le_refl _) ho hg hn
  have hne : ∀ b, some b = (f 1).ownBlock → q + 2 ≤ b := fun b hb => (Own.block (h1.1 1 (by omega)) hb.symm).1
  have hm2 : w'.heap[q + 1]? = some (.cells #[.int .i64 0, .int .i64 ((spR s i).length : Int), .int .i64 (s.length : Int), f 1] 27) := by
    rw [hg.block _ (blk_lt hm) fun e => by have := hne _ e; omega]; exact hm
  have hz2 : w'.heap[q]? = some (.cells #[.int .i64 0, .int .i64 0, .int .i64 0, .slice none 0 0] 27) := by
    rw [hg.block _ (blk_lt hz) fun e => by have := hne _ e; omega]; exact hz
  unfold SpS spD
  rw [spR_one e]
  refine ⟨fun t => if t = 1 then v else f t, by simp [h0], ?_, ?_, ?_⟩
  · have h5 := heap_setCell_at (heap_setCell_at hm2 3 v) 1 (.int .i64 (((spR s i).length : Int) + 1))
    simpa using h5
  · rw [Below.heap_setCell _ _ _ _ (show q ≠ (⟨q + 1, 1, none⟩ : Addr).block by show q ≠ q + 1; omega), Below.heap_setCell _ _ _ _ (show q ≠ (⟨q + 1, 3, none⟩ : Addr).block by show q ≠ q + 1; omega)]
    exact hz2
  · have h6 := ((hN.fewer (M := 2) (by omega)).setLow (a := ⟨q + 1, 3, none⟩) (by show q + 1 < q + 2; omega) v).setLow (a := ⟨q + 1, 1, none⟩) (by show q + 1 < q + 2; omega) (.int .i64 (((spR s i).length : Int) + 1))
    rw [size_setCell, size_setCell]
    refine h6.congr (fun t ht => rfl) fun t ht => ?_
    by_cases e1 : t = 1
    · subst e1; simp [List.flatten_append]
    · have : t = 0 := by omega
      subst this; simp [spDr, spD]

set_option maxRecDepth 100000 in
set_option maxHeartbeats 4000000 in
theorem l7Free_any (v : Value) (s : List Int) (w : World) (h : Ints w v s) (hx : strOk s = true) :
    Calls Try.prog 38 #[v] w fun e w' =>
      ∃ d fr, e = .returned (.tuple #[.agg #[.int .i64 0, .int .i64 ((spR s s.length).length : Int), .int .i64 (s.length : Int), d], fr]) ∧ OwnI 3 w' w.heap.size w'.heap.size d (spR s s.length).flatten ∧ OwnI 3 w' w.heap.size w'.heap.size fr (nats (spF s s.length)) ∧ Below w.heap.size w w' := by
  have Hh := Lib.hid h
  obtain ⟨hl1, hl7, hr⟩ := of_decide_eq_true hx
  have Hr := Lib.hid hr
  obtain ⟨q, cap, rfl, ⟨hx1, hx2⟩, hxc⟩ := h
  obtain ⟨b0, off, rfl, hc0⟩ := hxc (by omega)
  unfold maxLen at hx2
  have Hc0 := Lib.hid hc0
  have Hst := Lib.hid (SpS.start w s)
  have Hb0 := Lib.hid (below_alloc3 w (.cells #[.int .i64 0, .int .i64 0, .int .i64 0, .slice none 0 0] 27) (.cells #[.int .i64 0, .int .i64 0, .int .i64 (s.length : Int), .slice none 0 0] 27) (.cells #[] 3))
  clear hx hr hxc hc0
  go_enter Try.func38, Try.ntmps38
  go_wp2_with fail
  have hmk := run_make_row' (P := Try.prog) 22 3 (.int .i64 0) 8 Try.underlying22 info_int rfl .i64 .i64 s.length (by omega) (by omega)
  have Hmk := Lib.hid hmk
  clear hmk
  go_loopg [6, 7] s.length (fun gg s6 s7 wr => ∃ i : Nat, i ≤ s.length ∧ gg = s.length - i ∧ s7 = .int .i64 i ∧ Below w.heap.size w wr ∧ Hid (SpS w.heap.size wr s i (spF s i) s6))
  case atStart => exact ⟨0, Nat.zero_le _, rfl, rfl, Hb0.out, Hst.out⟩
  case round =>
    obtain ⟨i, hi, rfl, rfl, hbl, hO⟩ := hrel
    obtain ⟨wo, rfl⟩ : ∃ x : World, x = wr := ⟨_, rfl⟩
    have HO := Lib.hid hO.out
    clear hO
    have hsw := hbl.size
    by_cases hlt : i < s.length
    · have hlt2 : (i : Int) < (s.length : Int) := by omega
      have hlt3 : (0 : Int) ≤ (i : Int) := by omega
      have c1 : wo.cell? ⟨b0, off + i, none⟩ = some (.int .i64 (s.getD i 0)) := by
        have h5 := Hc0.out i hlt
        rw [hbl.cell (p := ⟨b0, off + i, none⟩) (World.block_lt_of_cell? _ _ h5), h5]; rfl
      rcases Hr.out _ (getD_mem hlt) with e0 | e0
      · rw [e0] at c1
        have E0 := Lib.hid e0
        clear e0
        go_wp2_with fail
        go_roundg (s.length - (i + 1))
        case measure => omega
        case rel => exact ⟨i + 1, by omega, rfl, by go_num, hbl, by show SpS _ _ _ _ _ _; rw [spF_zero E0.out]; exact HO.out.zero E0.out⟩
      · rw [e0] at c1
        have E0 := Lib.hid (show ¬ s.getD i 0 = 0 by rw [e0]; omega)
        clear e0
        obtain ⟨R, hR⟩ : ∃ R, R = (spR s i).length := ⟨_, rfl⟩
        have hRi : R ≤ i := by rw [hR]; exact spR_len s i
        have HR := Lib.hid hR
        have hmk := Hmk.out
        have hcm : (madeCells #[Value.int .i64 0] s.length)[i]? = some (.int .i64 0) := by simp [madeCells, hlt, Nat.mod_one]
        clear hR
        go_wp2_with fail
        clear hmk hcm c1
        obtain ⟨w1, hw1⟩ : ∃ x, x = wo.alloc (.cells ((madeCells #[Value.int .i64 0] s.length).setIfInBounds i (.int .i64 1)) 3) := ⟨_, rfl⟩
        have hrow := made_unit wo s.length i hlt (by omega)
        have hb1 := below_alloc wo (.cells ((madeCells #[Value.int .i64 0] s.length).setIfInBounds i (.int .i64 1)) 3)
        rw [← hw1] at hrow hb1 ⊢
        have hs1 : w1.heap.size = wo.heap.size + 1 := by rw [hw1, size_alloc]
        rw [← hs1] at hrow
        have HI := Lib.hid (HO.out.pend hb1 hrow)
        have HG0 := Lib.hid (spG_start s R i)
        have hbl1 : Below w.heap.size w w1 := hbl.trans (hb1.mono hsw)
        clear hw1 hrow hb1 hs1
        go_loopg [6, 9] (s.length - (i + 1)) (fun gg s6 s9 wr => ∃ j : Nat, i < j ∧ j ≤ s.length ∧ gg = s.length - j ∧ s9 = .int .i64 (j : Int) ∧ Below w.heap.size w wr ∧ Hid (SpSr w.heap.size wr s i (spF s i ++ spG s R i j) s6 (.slice (some ⟨wo.heap.size, 0, none⟩) s.length s.length)))
        case atStart => exact ⟨i + 1, by omega, by omega, rfl, rfl, hbl1, by show SpSr _ _ _ _ _ _ _; rw [HG0.out, List.append_nil]; exact HI.out⟩
        case round =>
          obtain ⟨j, hij, hj, rfl, rfl, hbi, hO⟩ := hrel
          have HJ := Lib.hid hO.out
          clear hO
          have hsi := hbi.size
          obtain ⟨f, hf0, hf2, hfm, hfz, hfN⟩ := HJ.out
          rw [← HR.out] at hfm
          obtain ⟨m0, m1, m2, m3, mf, mz⟩ := blk4 hfm
          have Hf0 := Lib.hid hf0
          have Hf2 := Lib.hid hf2
          have Hfm := Lib.hid hfm
          have Hfz := Lib.hid hfz
          have HfN := Lib.hid hfN
          clear hf0 hf2 hfm hfz hfN
          by_cases hjl : j < s.length
          · have hjl2 : (j : Int) < (s.length : Int) := by omega
            have c2 : wr.cell? ⟨b0, off + j, none⟩ = some (.int .i64 (s.getD j 0)) := by
              have h5 := Hc0.out j hjl
              rw [hbi.cell (p := ⟨b0, off + j, none⟩) (World.block_lt_of_cell? _ _ h5), h5]; rfl
            rcases Hr.out _ (getD_mem hjl) with e1 | e1
            · rw [e1] at c2
              have HGy := Lib.hid (spG_yes s R i j hij e1)
              clear e1
              have hnn : R * s.length ≤ 7 * 7 := Nat.mul_le_mul (by omega) hl7
              obtain ⟨L, hL⟩ : ∃ L, L = spF s i ++ spG s R i j := ⟨_, rfl⟩
              have hLl : L.length ≤ 60 := by
                have h1 := spF_len s hl7 i
                have h2 := spG_len s R i j
                rw [hL, List.length_append]; omega
              obtain ⟨K, hK, H3, H4⟩ := mul_hid R s.length (by omega)
              have hKl : K ≤ 49 := by omega
              have hfr := HJ.out.free
              rw [← hL] at hfr
              have HL := Lib.hid hL
              have HK := Lib.hid hK
              have hol := Lib.hid hfr
              have Hl1 := Lib.hid (show (nats L).length + 1 ≤ maxLen by rw [nats_length]; unfold maxLen; omega)
              have Hl2 := Lib.hid (show ((nats L).length + 1) * 8 ≤ 140737488355328 by rw [nats_length]; omega)
              have Hk1 := Lib.hid (show wrap64 ((K : Int) + (j : Int)) = (K : Int) + (j : Int) from w64 (by omega) (by omega))
              have Hk2 := Lib.hid (show IntKind.i64.wrap ((K : Int) + (j : Int)) = (K : Int) + (j : Int) from k64 (by omega) (by omega))
              have Hs1 := Lib.hid (show w.heap.size + 2 ≤ (wr.alloc (.cells #[.int .i64 ((K : Int) + (j : Int))] 3)).heap.size by rw [size_alloc]; omega)
              have Hs2 := Lib.hid (show wr.heap.size ≤ (wr.alloc (.cells #[.int .i64 ((K : Int) + (j : Int))] 3)).heap.size by rw [size_alloc]; omega)
              clear hK hnn hLl hL hfr
              have h3 := H3.out
              have h4 := H4.out
              have h5 := Hk1.out
              have h6 := Hk2.out
              go_wp2_with (at_builtin; go_must (refine wpList_append_G rfl (.tmp 42) (.tmp 49) 22 rfl 3 (.int .i64 0) 8 Try.underlying22 info_int rfl (w.heap.size + 2) wr.heap.size _ (nats L).length _ rfl (hol.out.fn.below (below_alloc _ _)) Hs1.out Hs2.out _ _ _ rfl (rd_one _ _ _ rfl) (fun j _ => rfl) Hl1.out Hl2.out ?_; clear h3 h4 h5 h6 m0 m1 m2 m3 mf; intro v' w' ho' hg' hwh'))
              have hol2 := OwnI.snoc1 ho'
              have hgb := grownBy_below hg' (OwnF.blocks hol.out.fn) (Nat.le_refl _) Hs1.out
              go_roundg (s.length - (j + 1))
              case measure => omega
              case rel =>
                refine ⟨j + 1, by omega, by omega, rfl, by go_num, (hbi.trans ((below_alloc _ _).mono hbi.size)).trans (hgb.mono (by omega)), ?_⟩
                show SpSr _ _ _ _ _ _ _
                rw [HGy.out, ← List.append_assoc, ← HK.out]
                refine SpSr.app (HJ.out.below (below_alloc _ _)) ?_ hg' hwh'
                rw [← HL.out, nats_snoc]
                exact hol2
            · rw [e1] at c2
              have HGn := Lib.hid (spG_no s R i j (by rw [e1]; omega))
              clear e1
              go_wp2_with fail
              go_roundg (s.length - (j + 1))
              case measure => omega
              case rel => exact ⟨j + 1, by omega, by omega, rfl, by go_num, hbi, by show SpSr _ _ _ _ _ _ _; rw [HGn.out]; exact HJ.out⟩
          · obtain rfl : j = s.length := by omega
            have hjl2 : ¬ (s.length : Int) < (s.length : Int) := by omega
            have hod := HfN.out.1 1 (by omega)
            have hor := HfN.out.1 2 (by omega)
            rw [Hf2.out] at hor
            have ed : spDr s i (spF s i ++ spG s R i s.length) 1 = (spR s i).flatten := by simp [spDr, spD]
            have er : spDr s i (spF s i ++ spG s R i s.length) 2 = unitRow s.length i := by simp [spDr]
            rw [ed] at hod
            rw [er] at hor
            obtain ⟨D, hD⟩ : ∃ D, D = (spR s i).flatten := ⟨_, rfl⟩
            have hDl : D.length ≤ 49 := by
              rw [hD, spR_flat, ← HR.out]; exact Nat.mul_le_mul (show R ≤ 7 by omega) hl7
            rw [← hD] at hod
            have hol := unitRow_length s.length (i : Int)
            obtain ⟨U, hU⟩ : ∃ U, U = unitRow s.length (i : Int) := ⟨_, rfl⟩
            rw [← hU] at hol hor
            have HD := Lib.hid hD
            have HU := Lib.hid hU
            have Hod := Lib.hid hod
            have Hor := Lib.hid hor.ints
            have Hl1 := Lib.hid (show D.length + U.length ≤ maxLen by rw [hol]; unfold maxLen; omega)
            have Hl2 := Lib.hid (show (D.length + U.length) * 8 ≤ 140737488355328 by rw [hol]; omega)
            have Hs1 := Lib.hid (show w.heap.size + 2 ≤ wr.heap.size by have := blk_lt Hfm.out; omega)
            obtain ⟨pd, kd, ed2, _, _⟩ := hod.shape
            have Hed := Lib.hid ed2
            rw [ed2] at m3
            clear hod hor ed er hD hU hol ed2
            go_wp2_with (at_builtin; go_must (refine wpList_append_G rfl (.tmp 52) (.tmp 53) 22 rfl 3 (.int .i64 0) 8 Try.underlying22 info_int rfl (w.heap.size + 2) wr.heap.size (f 1) D.length (iv D) Hed.out.symm Hod.out.fn Hs1.out (Nat.le_refl _) _ U.length (iv U) rfl Hor.out (fun j _ => iv_one _ j) Hl1.out Hl2.out ?_; intro v' w' ho' hg' hwh'; have hbx := (hg'.block (w.heap.size + 1) (blk_lt Hfm.out) (fun e => by have := (Own.block Hod.out e.symm).1; omega)).trans Hfm.out; obtain ⟨n0, n1, n2, n3, nf, nz⟩ := blk4 hbx; obtain ⟨pv', kv', rfl, _, _⟩ := (own_join ho').shape))
            have hgb := grownBy_below hg' (OwnF.blocks Hod.out.fn) (Nat.le_refl _) Hs1.out
            have ho2 := own_join ho'
            have hwh2 := hwh'
            rw [HD.out, HU.out] at ho2 hwh2
            have hfm2 := Hfm.out
            rw [HR.out] at hfm2
            have hfinal := SpSr.outer Hf0.out hfm2 Hfz.out HfN.out E0.out ho2 hg' hwh2
            rw [← HR.out, ← HD.out, ← HU.out] at hfinal
            have Hfin := Lib.hid hfinal
            have Hbel := Lib.hid (((hbi.trans (hgb.mono (by omega))).setCell (p := ⟨w.heap.size + 1, 3, none⟩) (by show w.heap.size ≤ w.heap.size + 1; omega) (.slice pv' (D ++ U).length kv')).setCell (p := ⟨w.heap.size + 1, 1, none⟩) (by show w.heap.size ≤ w.heap.size + 1; omega) (.int .i64 ((R : Int) + 1)))
            clear hgb ho2 hfm2 hfinal hbx
            go_wp2_with fail
            go_roundg (s.length - (i + 1))
            case measure => omega
            case rel =>
              refine ⟨i + 1, by omega, rfl, by go_num, ?_, ?_⟩
              · have := Hbel.out
                rw [List.length_append] at this
                exact this
              · show SpS _ _ _ _ _ _
                rw [spF_one E0.out, ← HR.out]
                have := Hfin.out
                rw [List.length_append] at this
                exact this
    · obtain rfl : i = s.length := by omega
      have hlt2 : ¬ (s.length : Int) < (s.length : Int) := by omega
      obtain ⟨f, hf0, hfm, hfz, hfN⟩ := HO.out
      have hod := hfN.1 1 (by omega)
      have hof := hfN.1 0 (by omega)
      rw [hf0] at hof
      have ed : spD s s.length (spF s s.length) 1 = (spR s s.length).flatten := by simp [spD]
      have ef : spD s s.length (spF s s.length) 0 = nats (spF s s.length) := by simp [spD]
      rw [ed] at hod
      rw [ef] at hof
      obtain ⟨pd, kd, ed2, _, _⟩ := hod.shape
      obtain ⟨pf, kf, rfl, _, _⟩ := hof.shape
      rw [ed2] at hod hfm
      have hqz := blk_lt hfm
      obtain ⟨D, hD⟩ : ∃ D, D = (spR s s.length).flatten := ⟨_, rfl⟩
      obtain ⟨R, hR⟩ : ∃ R, R = (spR s s.length).length := ⟨_, rfl⟩
      rw [← hD] at hod hfm
      rw [← hR] at hfm
      obtain ⟨m0, m1, m2, m3, mf, mz⟩ := blk4 hfm
      obtain ⟨z0, z1, z2, z3, zf, zz⟩ := blk4 hfz
      have HD := Lib.hid hD
      have HR := Lib.hid hR
      have Hod := Lib.hid hod
      have Hof := Lib.hid hof
      have Hfz := Lib.hid hfz
      clear hf0 hfm hfz hfN hod hof ed ef ed2 hD hR
      go_wp2_with fail
      obtain ⟨g0, g1, g2, g3, gf, gz⟩ := blk4 (set4_all Hfz.out (.int .i64 0) (.int .i64 (R : Int)) (.int .i64 (s.length : Int)) (.slice pd D.length kd))
      refine bodyPost_ret (v := .tuple #[.agg #[.int .i64 0, .int .i64 (R : Int), .int .i64 (s.length : Int), .slice pd D.length kd], .slice pf (nats (spF s s.length)).length kf]) (by simp [results, Try.results38, go_sem, g0, g1, g2, g3, gz]) rfl ⟨.slice pd D.length kd, _, by rw [HR.out], ?_, ?_, ?_⟩
      · rw [← HD.out]
        exact (own_set4 Hod.out (.inl (by omega)) _ _ _ _).mono (by omega) (by simp only [size_setCell]; omega)
      · exact (own_set4 Hof.out (.inl (by omega)) _ _ _ _).mono (by omega) (by simp only [size_setCell]; omega)
      · exact below_set4 hbl (Nat.le_refl _) _ _ _ _

set_option maxRecDepth 100000 in
set_option maxHeartbeats 4000000 in
theorem specSpacesWith_any (p : Int) (v : Value) (s : List Int) (w : World) (h : Ints w v s) :
    Calls Try.prog 14 #[.int .i64 p, v] w (RetMsB w (spMs p s)) := by
  have Hh := Lib.hid h
  cases hp : primeOk p with
  | false =>
    rw [spMs_no (.inl hp)]
    have Hp := Lib.hid hp
    clear hp h
    go_enter Try.func14, Try.ntmps14
    go_wp2_with (go_at_call 36; refine (l7Prime_b _ _ Hp.out _).mono ?_; rintro e w' ⟨rfl, rfl⟩)
    go_ret2
    exact ⟨_, rfl, OwnMs.nil _ _ _, Below.refl _ _⟩
  | true =>
    have Hp := Lib.hid hp
    obtain ⟨hp2, hp7⟩ := primeOk_range hp
    obtain ⟨pn, rfl⟩ := Int.eq_ofNat_of_zero_le (show 0 ≤ p by omega)
    cases hx : strOk s with
    | false =>
      rw [spMs_no (.inr hx)]
      have Hx := Lib.hid hx
      clear hp hx h
      go_enter Try.func14, Try.ntmps14
      go_wp2_with (first
        | (go_at_call 36; refine (l7Prime_b _ _ Hp.out _).mono ?_; rintro e w' ⟨rfl, rfl⟩)
        | (go_at_call 37; refine (specIsString_b _ s _ Hx.out _ Hh.out).mono ?_; rintro e w1 ⟨rfl, rfl⟩))
      go_ret2
      exact ⟨_, rfl, OwnMs.nil _ _ _, Below.refl _ _⟩
    | true =>
      rw [spMs_yes hp hx]
      have Hx := Lib.hid hx
      obtain ⟨hl1, hl7, hr⟩ := of_decide_eq_true hx
      obtain ⟨q, cap, rfl, ⟨hx1, hx2⟩, hxc⟩ := h
      unfold maxLen at hx2
      have hFl := spF_len s hl7 s.length
      have HF2 := Lib.hid (show (spF s s.length).length ≤ 49 by omega)
      have HD49 := Lib.hid (spR_49 hl7)
      have Hmem := Lib.hid (show ∀ t ∈ spF s s.length, t < (spR s s.length).flatten.length by rw [spR_flat]; exact spF_mem s s.length)
      have HC := fun w => l7Free_any (.slice q s.length cap) s w
      obtain ⟨D, hD⟩ : ∃ D, D = (spR s s.length).flatten := ⟨_, rfl⟩
      obtain ⟨L, hL⟩ : ∃ L, L = spF s s.length := ⟨_, rfl⟩
      rw [← hD] at HD49 Hmem HC
      rw [← hL] at HF2 Hmem HC
      have HDe := Lib.hid hD
      have HLe := Lib.hid hL
      have HC := Lib.hid HC
      clear hp hx hr hxc hFl hD hL
      go_enter Try.func14, Try.ntmps14
      go_wp2_with (first
        | (go_at_call 36; refine (l7Prime_b _ _ Hp.out _).mono ?_; rintro e w' ⟨rfl, rfl⟩)
        | (go_at_call 37; refine (specIsString_b _ s _ Hx.out _ Hh.out).mono ?_; rintro e w1 ⟨rfl, rfl⟩)
        | (go_at_call 38; refine (HC.out _ Hh.out Hx.out).mono ?_; rintro e w1 ⟨d, fr, rfl, hd, hf, hb⟩; have Hd := Lib.hid hd.ints; have Hf := Lib.hid hf.ints; have Hb := Lib.hid hb; obtain ⟨pd, kd, rfl, _, _⟩ := hd.shape; obtain ⟨pf, kf, rfl, _, _⟩ := hf.shape; rw [nats_length] at Hf ⊢; clear hd hf hb))
      refine (l7Power_any pn L.length _ (by omega) (by omega) (by have := HF2.out; omega)).mono ?_
      rintro e w' ⟨X, rfl, hX, hX1, hX2, rfl⟩
      have hsb := Hb.out.size
      by_cases hpw : pn ^ L.length ≤ 400
      · have hXl : X ≤ 400 := by rw [hX1 hpw]; exact hpw
        have hXi : ¬ (400 : Int) < (X : Int) := by omega
        have Hpw := Lib.hid hpw
        clear hX1 hX2 hpw
        go_wp2_with fail
        refine (l7Fill_any pn _ _ _ _ D L _ (Hd.out.below (below_alloc w1 _)) (Hf.out.below (below_alloc w1 _)) (by omega) (by omega) Hmem.out HD49.out HF2.out Hpw.out).mono ?_
        rintro e w3 ⟨vr, rfl, hv, hb3⟩
        rw [size_alloc] at hv hb3
        obtain ⟨pr, kr, rfl, _, _⟩ := hv.shape
        have Hv := Lib.hid hv
        have He := Lib.hid (show fillB (pn : Int) (spR s s.length).length s.length D L = (fillMs pn (spR s s.length).length s.length D L (pn ^ L.length), true) by unfold fillB; rw [Int.toNat_natCast, if_pos Hpw.out])
        clear hv
        go_wp2_with fail
        go_ret2
        have e1 := HDe.out
        have e2 := HLe.out
        subst e1 e2
        rw [He.out]
        exact ⟨_, rfl, Hv.out.mono (by omega) (Nat.le_refl _), (Hb.out.trans ((below_alloc w1 _).mono hsb)).trans (hb3.mono (by omega))⟩
      · have hXl : 400 < X := hX2 (by omega)
        have hXi : (400 : Int) < (X : Int) := by omega
        have He := Lib.hid (show fillB (pn : Int) (spR s s.length).length s.length D L = ([], false) by unfold fillB; rw [Int.toNat_natCast, if_neg hpw])
        clear hX1 hX2 hpw
        go_wp2_with fail
        go_ret2
        have e1 := HDe.out
        have e2 := HLe.out
        subst e1 e2
        rw [He.out]
        exact ⟨_, rfl, OwnMs.nil _ _ _, Hb.out.trans ((below_alloc w1 _).mono hsb)⟩

end Go.Proofs.Ytejoapielndnnaa
