/-
  KeepsEssential, on both sides.
-/
import Derived.Test.YtejoapielndnnaaKeep
import Derived.Test.YtejoapielndnnaaEss2
namespace Go.Proofs.Ytejoapielndnnaa
set_option linter.all false
open Go.RowKit

/-- what KeepsEssential returns -/
def KeIs (P R C : Int) (D xs : List Int) (b : Bool) : Prop := b = true ↔ sqOk P R C D xs = true ∧ ∀ i j : Nat, ((i : Int), (j : Int)) ∈ essL xs → ∀ m, CkIs P xs.length xs.length D (i + 1 : Nat) (j + 1 : Nat) m → m ≤ (rkL xs (j + 1 : Nat) (i + 1) : Nat)
theorem KeIs.one {P R C : Int} {D xs : List Int} {b b' : Bool} (h : KeIs P R C D xs b) (h' : KeIs P R C D xs b') : b = b' := by
  unfold KeIs at h h'
  have e : b = true ↔ b' = true := h.trans h'.symm
  cases b <;> cases b' <;> simp_all
theorem KeIs.eps {P R C : Int} {D xs : List Int} {b : Bool} (h : KeIs P R C D xs b) : b = Classical.epsilon (KeIs P R C D xs) := h.one (Classical.epsilon_spec ⟨b, h⟩)
theorem KeIs.no {P R C : Int} {D xs : List Int} (h : sqOk P R C D xs = false) : KeIs P R C D xs false := by
  unfold KeIs; simp [h]
theorem KeIs.out {P R C : Int} {D xs : List Int} {n i j : Nat} {m : Int} (hn : n = xs.length) (hc : ((i : Int), (j : Int)) ∈ essL xs) (hm : CkIs P n n D (i + 1 : Nat) (j + 1 : Nat) m) (hlt : ((rkL xs (j + 1 : Nat) (i + 1) : Nat) : Int) < m) : KeIs P R C D xs false := by
  subst hn
  refine ⟨fun e => absurd e (by decide), fun e => ?_⟩
  have := e.2 i j hc m hm
  omega
theorem KeIs.yes {P R C : Int} {D xs : List Int} {n : Nat} (h : sqOk P R C D xs = true) (hn : n = xs.length) (hk : ∀ i j : Nat, ((i : Int), (j : Int)) ∈ essL xs → ∀ m, CkIs P n n D (i + 1 : Nat) (j + 1 : Nat) m → m ≤ (rkL xs (j + 1 : Nat) (i + 1) : Nat)) : KeIs P R C D xs true := by
  subst hn
  exact ⟨fun _ => ⟨h, hk⟩, fun _ => rfl⟩
theorem ess_nat {xs : List Int} (hp : permOk xs = true) : ∀ c ∈ essL xs, ∃ i j : Nat, c = ((i : Int), (j : Int)) ∧ i < xs.length ∧ j < xs.length := fun c hc => by
  obtain ⟨hl1, hl7, hr, _⟩ := of_decide_eq_true hp
  have hc := (List.mem_filter.1 hc).1
  unfold diagL dgUp at hc
  obtain ⟨i, hi, h⟩ := List.mem_flatMap.1 hc
  have hi : i < xs.length := by simpa using hi
  obtain ⟨j, hj, rfl⟩ := mem_dgIn h
  have := hr _ (getD_mem hi)
  exact ⟨i, j, rfl, hi, by omega⟩
theorem ess_len {xs : List Int} (hp : permOk xs = true) : (essL xs).length ≤ 49 := Nat.le_trans (List.length_filter_le _ _) (diag_len hp)
theorem qt_self {w w' : World} (h : Qt w w') : Below w.heap.size w w' := h.below _
theorem wrap_one (i : Nat) (h : i ≤ 7) : IntKind.i64.wrap ((i : Int) + 1) = ((i + 1 : Nat) : Int) := by
  rw [k64 (by omega) (by omega)]; omega
theorem wrap64_one (i : Nat) (h : i ≤ 7) : wrap64 ((i : Int) + 1) = ((i + 1 : Nat) : Int) := by
  rw [w64 (by omega) (by omega)]; omega

theorem keepE6 {wr W W' : World} {a0 a1 a2 a3 a4 a5 : Addr} {v0 v1 v2 v3 v4 v5 : Value} (hb : Below W.heap.size W W') (h : (W.cell? a0 = some v0 ∧ W.cell? a1 = some v1 ∧ W.cell? a2 = some v2 ∧ W.cell? a3 = some v3 ∧ W.cell? a4 = some v4 ∧ W.cell? a5 = some v5) ∧ Below wr.heap.size wr W) : (W'.cell? a0 = some v0 ∧ W'.cell? a1 = some v1 ∧ W'.cell? a2 = some v2 ∧ W'.cell? a3 = some v3 ∧ W'.cell? a4 = some v4 ∧ W'.cell? a5 = some v5) ∧ Below wr.heap.size wr W' := by
  obtain ⟨⟨h0, h1, h2, h3, h4, h5⟩, hB⟩ := h
  exact ⟨⟨cell_below hb h0, cell_below hb h1, cell_below hb h2, cell_below hb h3, cell_below hb h4, cell_below hb h5⟩, below_trans hB hb⟩

set_option maxRecDepth 100000 in
set_option maxHeartbeats 4000000 in
theorem specKeepsEss_ex (P R C : Int) (d v : Value) (D xs : List Int) (w : World) (hd : Ints w d D) (hw : Ints w v xs) :
    Calls Try.prog 8 #[.agg #[.int .i64 P, .int .i64 R, .int .i64 C, d], v] w fun e w' => ∃ b, e = .returned (.bool b) ∧ KeIs P R C D xs b ∧ Below w.heap.size w w' := by
  have Hd := Lib.hid hd
  have Hw := Lib.hid hw
  obtain ⟨p, cap, rfl, ⟨_, mx⟩, _⟩ := hd
  obtain ⟨p', cap', rfl, ⟨_, mx'⟩, _⟩ := hw
  unfold maxLen at mx mx'
  have HB := Lib.hid (below_alloc w (.cells #[.int .i64 P, .int .i64 R, .int .i64 C, .slice p D.length cap] 27))
  have Z := Lib.hid (heap_alloc_top w (.cells #[.int .i64 P, .int .i64 R, .int .i64 C, .slice p D.length cap] 27))
  cases hs : sqOk P R C D xs with
  | false =>
    have Hs := Lib.hid hs
    clear hs
    go_enter Try.func8, Try.ntmps8
    go_wp2_with fail
    refine (specSquare_any _ _ _ _ _ D xs _ (Hd.out.below HB.out) (Hw.out.below HB.out)).mono ?_
    rintro e w1 ⟨rfl, hb⟩
    rw [Hs.out]
    have hsz := HB.out.size
    have HB := Lib.hid (HB.out.trans (hb.mono hsz))
    clear hb hsz
    go_wp2_with fail
    go_ret
    exact ⟨_, rfl, KeIs.no Hs.out, HB.out⟩
  | true =>
    obtain ⟨hm, hp, hR, hC⟩ := sqOk_facts hs
    obtain ⟨n, hn⟩ : ∃ n, n = xs.length := ⟨_, rfl⟩
    rw [← hn] at hR hC
    subst hR hC
    have Hs := Lib.hid hs
    obtain ⟨r, c, e1, e2, hr, hc0, hc, hlD, hD, hP2, hP7, hpr⟩ := mxOk_facts hm
    have e1 := Int.ofNat.inj e1
    have e2 := Int.ofNat.inj e2
    subst e1
    subst e2
    have Hm := Lib.hid hm
    have Hp := Lib.hid hp
    have Hrg := Lib.hid (fun t => getD_range hD (by omega) t)
    have HlD := Lib.hid hlD
    have Hpr := Lib.hid hpr
    have Hn := Lib.hid hn
    have hel := ess_len hp
    have Hen := Lib.hid (ess_nat hp)
    obtain ⟨es, hes⟩ : ∃ es, es = essL xs := ⟨_, rfl⟩
    rw [← hes] at hel Hen
    have Hes := Lib.hid hes
    clear hs hm hp hlD hD hpr hn hes
    have hn7 : xs.length ≤ 7 := by have := Hn.out; omega
    go_enter Try.func8, Try.ntmps8
    go_wp2_with fail
    refine (specSquare_any _ _ _ _ _ D xs _ (Hd.out.below HB.out) (Hw.out.below HB.out)).mono ?_
    rintro e w1 ⟨rfl, hb⟩
    rw [Hs.out]
    have hsz := HB.out.size
    have HB1 := Lib.hid (HB.out.trans (hb.mono hsz))
    have Z1 := Lib.hid (blk_later Z.out hb)
    clear hb hsz
    go_wp2_with fail
    refine (specEssential_any _ xs _ (Hw.out.below HB1.out) Hp.out).mono ?_
    rintro e w2 ⟨u, rfl, hol, hb2⟩
    rw [← Hes.out] at hol
    obtain ⟨pl, kl, rfl, _, _⟩ := hol.shape
    have Hol := Lib.hid hol.rd
    have HB2 := Lib.hid (HB1.out.trans (hb2.mono HB1.out.size))
    have Z2 := Lib.hid (blk_later Z1.out hb2)
    clear hol hb2
    go_wp2_with fail
    go_loopg [6] es.length (fun g s6 wr => ∃ k : Nat, k ≤ es.length ∧ g = es.length - k ∧ s6 = .int .i64 k ∧ Hid (Below w2.heap.size w2 wr) ∧ Hid (∀ i j : Nat, ((i : Int), (j : Int)) ∈ es.take k → ∀ m, CkIs P n n D (i + 1 : Nat) (j + 1 : Nat) m → m ≤ (rkL xs (j + 1 : Nat) (i + 1) : Nat)))
    case atStart => exact ⟨0, Nat.zero_le _, rfl, rfl, Below.refl _ _, fun i j h => by simp at h⟩
    case round =>
      obtain ⟨k, hk, rfl, rfl, hbk, hok⟩ := hrel
      have HBk := Lib.hid (HB2.out.trans (hbk.out.mono HB2.out.size))
      have hzk := blk_later Z2.out hbk.out
      by_cases hlt : k < es.length
      · have hlt2 : (k : Int) < (es.length : Int) := by omega
        obtain ⟨_, _, e, ⟨hx1, hx2⟩, hxc⟩ := Hol.out
        injection e with e1 _ e3
        subst e1 e3
        obtain ⟨b, rfl, hc'⟩ := hxc (by omega)
        have c1 : wr.cell? ⟨b, k * 2, none⟩ = some (.int .i64 (es.getD k (0, 0)).1) := by rw [hbk.out.cell (World.block_lt_of_cell? _ _ (hc' k hlt).1)]; exact (hc' k hlt).1
        have c2 : wr.cell? ⟨b, k * 2 + 1, none⟩ = some (.int .i64 (es.getD k (0, 0)).2) := by rw [hbk.out.cell (World.block_lt_of_cell? _ _ (hc' k hlt).2)]; exact (hc' k hlt).2
        obtain ⟨e, he⟩ : ∃ e, e = es.getD k (0, 0) := ⟨_, rfl⟩
        rw [← he] at c1 c2
        have ht : es.take (k + 1) = es.take k ++ [e] := by rw [he, List.take_add_one, List.getElem?_eq_getElem hlt, List.getD_eq_getElem?_getD, List.getElem?_eq_getElem hlt]; rfl
        have hmem : e ∈ es := List.mem_of_mem_take (i := k + 1) (by rw [ht]; simp)
        obtain ⟨i, j, rfl, hin, hjn⟩ := Hen.out e hmem
        dsimp only at c1 c2
        have hin2 : i < n := by have := Hn.out; omega
        have hjn2 : j < n := by have := Hn.out; omega
        have Ht := Lib.hid ht
        have Hmem := Lib.hid (show ((i : Int), (j : Int)) ∈ essL xs by rw [← Hes.out]; exact hmem)
        have Hok := Lib.hid hok.out
        have Hbk := Lib.hid hbk.out
        have Hzk := Lib.hid hzk
        have Hwi := Lib.hid (wrap_one i (by omega))
        have Hci := Lib.hid (show (i : Int) + 1 = ((i + 1 : Nat) : Int) by omega)
        have Hcj := Lib.hid (show (j : Int) + 1 = ((j + 1 : Nat) : Int) by omega)
        have Hwj := Lib.hid (wrap_one j (by omega))
        have Hwi2 := Lib.hid (wrap64_one i (by omega))
        have Hwj2 := Lib.hid (wrap64_one j (by omega))
        have hdk := HBk.out.size
        clear hxc hx1 hx2 hc' he ht hmem hok hbk hzk
        obtain ⟨m0, m1, m2, m3, mf', mz⟩ := blk4 Hzk.out
        go_wp2_with fail
        go_region_held3 (fun w' => (w'.cell? ⟨w.heap.size, 0, none⟩ = some (.int .i64 P) ∧ w'.cell? ⟨w.heap.size, 1, none⟩ = some (.int .i64 (n : Int)) ∧ w'.cell? ⟨w.heap.size, 2, none⟩ = some (.int .i64 (n : Int)) ∧ w'.cell? ⟨w.heap.size, 3, none⟩ = some (.slice p D.length cap) ∧ w'.cell? ⟨b, k * 2, none⟩ = some (.int .i64 (i : Int)) ∧ w'.cell? ⟨b, k * 2 + 1, none⟩ = some (.int .i64 (j : Int))) ∧ Below wr.heap.size wr w')
          (first | exact ⟨⟨m0, m1, m2, m3, c1, c2⟩, (Below.refl _ _).drew⟩ | exact keepE6 hb1 (by assumption))
          (first
            | (go_at_call 30; (first | rw [Hwi.out, Hwj.out] | rw [Hci.out, Hcj.out]); refine (l7Corner_any P n n (i + 1) (j + 1) _ D _ (held_ints (Hd.out.below HBk.out) (by assumption)) HlD.out Hrg.out Hpr.out (by omega) (by omega) (by omega) (by omega) (by omega)).mono ?_; rintro e w' ⟨m, rfl, hm, hmi, hb1⟩; have Hck := Lib.hid (CkIs.yes Hm.out (by omega : i + 1 ≤ n) (by omega : j + 1 ≤ n) hm); clear hm; have hBz : Below wr.heap.size wr w' := below_trans (held_below (by assumption)) hb1)
            | (go_at_call 31; (first | rw [Hwi.out, Hwj.out] | rw [Hci.out, Hcj.out]); refine (l1Rank_any _ xs (i + 1) (j + 1 : Nat) _ (held_ints (Hw.out.below HBk.out) (by assumption)) (by omega) (by omega)).mono ?_; rintro e w' ⟨rfl, hq1⟩; obtain ⟨q, hq⟩ : ∃ q, q = rkL xs (j + 1 : Nat) (i + 1) := ⟨_, rfl⟩; rw [← hq]; have Hq := Lib.hid hq; clear hq; have hb1 := qt_self hq1; clear hq1; have hBz : Below wr.heap.size wr w' := below_trans (held_below (by assumption)) hb1))
        all_goals (
          have HBz := Lib.hid (HBk.out.trans (hBz.mono HBk.out.size))
          by_cases hgt : (q : Int) < (m : Int))
        all_goals first
          | (go_wp2_with fail
             go_ret
             first
               | exact ⟨_, rfl, KeIs.out Hn.out Hmem.out Hck.out (by rw [← Hq.out]; exact hgt), HBz.out⟩
               | exact Or.inl ⟨rfl, KeIs.out Hn.out Hmem.out Hck.out (by rw [← Hq.out]; exact hgt), HBz.out⟩)
          | (have hgt2 : decide ((q : Int) < (m : Int)) = false := decide_eq_false hgt
             have hgt3 : decide (q < m) = false := decide_eq_false (by omega)
             go_wp2_with fail
             go_roundg (es.length - (k + 1))
             case measure => omega
             case rel =>
               refine ⟨k + 1, by omega, rfl, by go_num, Hbk.out.trans (hBz.mono (by exact Hbk.out.size)), fun i' j' h m' hm' => ?_⟩
               rw [Ht.out, List.mem_append] at h
               rcases h with h | h
               · exact Hok.out i' j' h m' hm'
               · have h := List.mem_singleton.1 h
                 injection h with h1 h2
                 obtain rfl := Int.ofNat.inj h1
                 obtain rfl := Int.ofNat.inj h2
                 rw [hm'.one Hck.out, ← Hq.out]; omega)
      · have hk2 : k = es.length := by omega
        subst hk2
        have i1 : ¬ (es.length : Int) < (es.length : Int) := by omega
        rw [List.take_of_length_le (Nat.le_refl _)] at hok
        have Hok := Lib.hid hok.out
        clear hok hzk
        go_wp2_with fail
        go_ret
        first
          | exact ⟨_, rfl, KeIs.yes Hs.out Hn.out (fun i j h => Hok.out i j (by rw [Hes.out]; exact h)), HBk.out⟩
          | exact Or.inr ⟨rfl, KeIs.yes Hs.out Hn.out (fun i j h => Hok.out i j (by rw [Hes.out]; exact h)), HBk.out⟩

set_option maxRecDepth 100000 in
set_option maxHeartbeats 4000000 in
theorem implKeepsEss_ex (P R C : Int) (d v : Value) (D xs : List Int) (w : World) (hd : Ints w d D) (hw : Ints w v xs) :
    Calls Try.prog 11 #[.agg #[.int .i64 P, .int .i64 R, .int .i64 C, d], v] w fun e w' => ∃ b, e = .returned (.bool b) ∧ KeIs P R C D xs b ∧ Below w.heap.size w w' := by
  have Hd := Lib.hid hd
  have Hw := Lib.hid hw
  obtain ⟨p, cap, rfl, ⟨_, mx⟩, _⟩ := hd
  obtain ⟨p', cap', rfl, ⟨_, mx'⟩, _⟩ := hw
  unfold maxLen at mx mx'
  have HB := Lib.hid (below_alloc w (.cells #[.int .i64 P, .int .i64 R, .int .i64 C, .slice p D.length cap] 27))
  have Z := Lib.hid (heap_alloc_top w (.cells #[.int .i64 P, .int .i64 R, .int .i64 C, .slice p D.length cap] 27))
  cases hs : sqOk P R C D xs with
  | false =>
    have Hs := Lib.hid hs
    clear hs
    go_enter Try.func11, Try.ntmps11
    go_wp2_with fail
    refine (implSquare_any _ _ _ _ _ D xs _ (Hd.out.below HB.out) (Hw.out.below HB.out)).mono ?_
    rintro e w1 ⟨rfl, hb⟩
    rw [Hs.out]
    have hsz := HB.out.size
    have HB := Lib.hid (HB.out.trans (hb.mono hsz))
    clear hb hsz
    go_wp2_with fail
    go_ret
    exact ⟨_, rfl, KeIs.no Hs.out, HB.out⟩
  | true =>
    obtain ⟨hm, hp, hR, hC⟩ := sqOk_facts hs
    obtain ⟨n, hn⟩ : ∃ n, n = xs.length := ⟨_, rfl⟩
    rw [← hn] at hR hC
    subst hR hC
    have Hs := Lib.hid hs
    obtain ⟨r, c, e1, e2, hr, hc0, hc, hlD, hD, hP2, hP7, hpr⟩ := mxOk_facts hm
    have e1 := Int.ofNat.inj e1
    have e2 := Int.ofNat.inj e2
    subst e1
    subst e2
    have Hm := Lib.hid hm
    have Hp := Lib.hid hp
    have Hrg := Lib.hid (fun t => getD_range hD (by omega) t)
    have HlD := Lib.hid hlD
    have Hpr := Lib.hid hpr
    have Hn := Lib.hid hn
    have hel := ess_len hp
    have Hen := Lib.hid (ess_nat hp)
    obtain ⟨es, hes⟩ : ∃ es, es = essL xs := ⟨_, rfl⟩
    rw [← hes] at hel Hen
    have Hes := Lib.hid hes
    clear hs hm hp hlD hD hpr hn hes
    have hn7 : xs.length ≤ 7 := by have := Hn.out; omega
    go_enter Try.func11, Try.ntmps11
    go_wp2_with fail
    refine (implSquare_any _ _ _ _ _ D xs _ (Hd.out.below HB.out) (Hw.out.below HB.out)).mono ?_
    rintro e w1 ⟨rfl, hb⟩
    rw [Hs.out]
    have hsz := HB.out.size
    have HB1 := Lib.hid (HB.out.trans (hb.mono hsz))
    have Z1 := Lib.hid (blk_later Z.out hb)
    clear hb hsz
    go_wp2_with fail
    refine (implEssential_any _ xs _ (Hw.out.below HB1.out) Hp.out).mono ?_
    rintro e w2 ⟨u, rfl, hol, hb2⟩
    rw [← Hes.out] at hol
    obtain ⟨pl, kl, rfl, _, _⟩ := hol.shape
    have Hol := Lib.hid hol.rd
    have HB2 := Lib.hid (HB1.out.trans (hb2.mono HB1.out.size))
    have Z2 := Lib.hid (blk_later Z1.out hb2)
    clear hol hb2
    go_wp2_with fail
    go_loopg [14] es.length (fun g s6 wr => ∃ k : Nat, k ≤ es.length ∧ g = es.length - k ∧ s6 = .int .i64 k ∧ Hid (Below w2.heap.size w2 wr) ∧ Hid (∀ i j : Nat, ((i : Int), (j : Int)) ∈ es.take k → ∀ m, CkIs P n n D (i + 1 : Nat) (j + 1 : Nat) m → m ≤ (rkL xs (j + 1 : Nat) (i + 1) : Nat)))
    case atStart => exact ⟨0, Nat.zero_le _, rfl, rfl, Below.refl _ _, fun i j h => by simp at h⟩
    case round =>
      obtain ⟨k, hk, rfl, rfl, hbk, hok⟩ := hrel
      have HBk := Lib.hid (HB2.out.trans (hbk.out.mono HB2.out.size))
      have hzk := blk_later Z2.out hbk.out
      by_cases hlt : k < es.length
      · have hlt2 : (k : Int) < (es.length : Int) := by omega
        obtain ⟨_, _, e, ⟨hx1, hx2⟩, hxc⟩ := Hol.out
        injection e with e1 _ e3
        subst e1 e3
        obtain ⟨b, rfl, hc'⟩ := hxc (by omega)
        have c1 : wr.cell? ⟨b, k * 2, none⟩ = some (.int .i64 (es.getD k (0, 0)).1) := by rw [hbk.out.cell (World.block_lt_of_cell? _ _ (hc' k hlt).1)]; exact (hc' k hlt).1
        have c2 : wr.cell? ⟨b, k * 2 + 1, none⟩ = some (.int .i64 (es.getD k (0, 0)).2) := by rw [hbk.out.cell (World.block_lt_of_cell? _ _ (hc' k hlt).2)]; exact (hc' k hlt).2
        obtain ⟨e, he⟩ : ∃ e, e = es.getD k (0, 0) := ⟨_, rfl⟩
        rw [← he] at c1 c2
        have ht : es.take (k + 1) = es.take k ++ [e] := by rw [he, List.take_add_one, List.getElem?_eq_getElem hlt, List.getD_eq_getElem?_getD, List.getElem?_eq_getElem hlt]; rfl
        have hmem : e ∈ es := List.mem_of_mem_take (i := k + 1) (by rw [ht]; simp)
        obtain ⟨i, j, rfl, hin, hjn⟩ := Hen.out e hmem
        dsimp only at c1 c2
        have hin2 : i < n := by have := Hn.out; omega
        have hjn2 : j < n := by have := Hn.out; omega
        have Ht := Lib.hid ht
        have Hmem := Lib.hid (show ((i : Int), (j : Int)) ∈ essL xs by rw [← Hes.out]; exact hmem)
        have Hok := Lib.hid hok.out
        have Hbk := Lib.hid hbk.out
        have Hzk := Lib.hid hzk
        have Hwi := Lib.hid (wrap_one i (by omega))
        have Hci := Lib.hid (show (i : Int) + 1 = ((i + 1 : Nat) : Int) by omega)
        have Hcj := Lib.hid (show (j : Int) + 1 = ((j + 1 : Nat) : Int) by omega)
        have Hwj := Lib.hid (wrap_one j (by omega))
        have Hwi2 := Lib.hid (wrap64_one i (by omega))
        have Hwj2 := Lib.hid (wrap64_one j (by omega))
        have hdk := HBk.out.size
        clear hxc hx1 hx2 hc' he ht hmem hok hbk hzk
        have hy := heap_alloc_top wr (.cells #[.int .i64 (i : Int), .int .i64 (j : Int)] 55)
        have hba := below_alloc wr (.cells #[.int .i64 (i : Int), .int .i64 (j : Int)] 55)
        have Hy := Lib.hid hy
        have Hba := Lib.hid hba
        clear hy hba
        go_wp2_with fail
        clear c1 c2
        obtain ⟨y, hyb⟩ : ∃ y, y = wr.heap.size := ⟨_, rfl⟩
        rw [← hyb] at Hy ⊢
        have Hyb := Lib.hid hyb
        clear hyb
        generalize wr.alloc (.cells #[.int .i64 (i : Int), .int .i64 (j : Int)] 55) = wx at *
        obtain ⟨c1, c2, ef, ez⟩ := blk2 Hy.out
        have hzx := blk_later Hzk.out Hba.out
        have Hwx := Lib.hid (HBk.out.trans (Hba.out.mono hdk))
        obtain ⟨m0, m1, m2, m3, mf', mz⟩ := blk4 hzx
        clear hzx
        go_region_held3 (fun w' => (w'.cell? ⟨w.heap.size, 0, none⟩ = some (.int .i64 P) ∧ w'.cell? ⟨w.heap.size, 1, none⟩ = some (.int .i64 (n : Int)) ∧ w'.cell? ⟨w.heap.size, 2, none⟩ = some (.int .i64 (n : Int)) ∧ w'.cell? ⟨w.heap.size, 3, none⟩ = some (.slice p D.length cap) ∧ w'.cell? ⟨y, 0, none⟩ = some (.int .i64 (i : Int)) ∧ w'.cell? ⟨y, 1, none⟩ = some (.int .i64 (j : Int))) ∧ Below wx.heap.size wx w')
          (first | exact ⟨⟨m0, m1, m2, m3, c1, c2⟩, (Below.refl _ _).drew⟩ | exact keepE6 hb1 (by assumption))
          (first
            | (go_at_call 34; (first | rw [Hwi.out, Hwj.out] | rw [Hci.out, Hcj.out]); refine (implCornerRank_ex P n n _ D (i + 1 : Nat) (j + 1 : Nat) _ (held_ints (Hd.out.below Hwx.out) (by assumption))).mono ?_; rintro e w' ⟨m, rfl, hck, hb1⟩; have Hck := Lib.hid hck; clear hck; have hBz : Below wx.heap.size wx w' := below_trans (held_below (by assumption)) hb1)
            | (go_at_call 35; (first | rw [Hwi.out, Hwj.out] | rw [Hci.out, Hcj.out]); refine (implRankAt_any _ xs (i + 1) (j + 1) _ (held_ints (Hw.out.below Hwx.out) (by assumption)) Hp.out (by omega) (by omega) hn7 (by omega)).mono ?_; rintro e w' ⟨rfl, hb1⟩; obtain ⟨q, hq⟩ : ∃ q, q = rkL xs (j + 1 : Nat) (i + 1) := ⟨_, rfl⟩; rw [← hq]; have Hq := Lib.hid hq; clear hq; have hBz : Below wx.heap.size wx w' := below_trans (held_below (by assumption)) hb1))
        all_goals (
          have HBz := Lib.hid (Hwx.out.trans (hBz.mono Hwx.out.size))
          by_cases hgt : (q : Int) < (m : Int))
        all_goals first
          | (go_wp2_with fail
             go_ret
             first
               | exact ⟨_, rfl, KeIs.out Hn.out Hmem.out Hck.out (by rw [← Hq.out]; exact hgt), HBz.out⟩
               | exact Or.inl ⟨rfl, KeIs.out Hn.out Hmem.out Hck.out (by rw [← Hq.out]; exact hgt), HBz.out⟩)
          | (have hgt2 : decide ((q : Int) < (m : Int)) = false := decide_eq_false hgt
             have hgt3 : True := trivial
             go_wp2_with fail
             go_roundg (es.length - (k + 1))
             case measure => omega
             case rel =>
               refine ⟨k + 1, by omega, rfl, by go_num, Hbk.out.trans ((Hba.out.mono Hbk.out.size).trans (hBz.mono (by have := Hba.out.size; have := Hbk.out.size; omega))), fun i' j' h m' hm' => ?_⟩
               rw [Ht.out, List.mem_append] at h
               rcases h with h | h
               · exact Hok.out i' j' h m' hm'
               · have h := List.mem_singleton.1 h
                 injection h with h1 h2
                 obtain rfl := Int.ofNat.inj h1
                 obtain rfl := Int.ofNat.inj h2
                 rw [hm'.one Hck.out, ← Hq.out]; omega)
      · have hk2 : k = es.length := by omega
        subst hk2
        have i1 : ¬ (es.length : Int) < (es.length : Int) := by omega
        rw [List.take_of_length_le (Nat.le_refl _)] at hok
        have Hok := Lib.hid hok.out
        clear hok hzk
        go_wp2_with fail
        go_ret
        first
          | exact ⟨_, rfl, KeIs.yes Hs.out Hn.out (fun i j h => Hok.out i j (by rw [Hes.out]; exact h)), HBk.out⟩
          | exact Or.inr ⟨rfl, KeIs.yes Hs.out Hn.out (fun i j h => Hok.out i j (by rw [Hes.out]; exact h)), HBk.out⟩

theorem specKeepsEss_any (P R C : Int) (d v : Value) (D xs : List Int) (w : World) (hd : Ints w d D) (hw : Ints w v xs) :
    Calls Try.prog 8 #[.agg #[.int .i64 P, .int .i64 R, .int .i64 C, d], v] w fun e w' => e = .returned (.bool (Classical.epsilon (KeIs P R C D xs))) ∧ Below w.heap.size w w' :=
  (specKeepsEss_ex P R C d v D xs w hd hw).mono fun e w' ⟨b, h1, h2, h3⟩ => ⟨by rw [h1, h2.eps], h3⟩

theorem implKeepsEss_any (P R C : Int) (d v : Value) (D xs : List Int) (w : World) (hd : Ints w d D) (hw : Ints w v xs) :
    Calls Try.prog 11 #[.agg #[.int .i64 P, .int .i64 R, .int .i64 C, d], v] w fun e w' => e = .returned (.bool (Classical.epsilon (KeIs P R C D xs))) ∧ Below w.heap.size w w' :=
  (implKeepsEss_ex P R C d v D xs w hd hw).mono fun e w' ⟨b, h1, h2, h3⟩ => ⟨by rw [h1, h2.eps], h3⟩

end Go.Proofs.Ytejoapielndnnaa
