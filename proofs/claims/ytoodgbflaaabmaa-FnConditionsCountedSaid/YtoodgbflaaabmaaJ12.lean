/-
  The normal form of a flag: the program's, walked.
  NormalFlag and FlagPerm, on both sides.
  Positions of flags with the same members: plain law.
  The draws: the cursor over the bytes, a number below another one.
-/
import Derived.Test.YtoodgbflaaabmaaJ8
import Derived.Test.YtoodgbflaaabmaaJ9
import Derived.Test.YtoodgbflaaabmaaJ11
import Derived.Test.YtoodgbflaaabmaaJ10
import Derived.Test.YtoodgbflaaabmaaJ1
import Derived.Test.YtoodgbflaaabmaaJ2
namespace Go.Proofs.Ytoodgbflaaabmaa
set_option linter.all false
open Go.RowKit

theorem grown_trans {w w1 w2 : World} {o : Option Nat} (h : w.grownBy w1 o) (h2 : w1.grownBy w2 o) : w.grownBy w2 o :=
  ⟨h2.os.trans h.os, h2.tape.trans h.tape, h2.output.trans h.output, Nat.le_trans h.size h2.size, fun k hk hne => (h2.block k (Nat.lt_of_lt_of_le hk h.size) hne).trans (h.block k hk hne)⟩
theorem grown_below {w w1 : World} {o : Option Nat} (h : Below w.heap.size w w1) : w.grownBy w1 o := ⟨h.os, h.tape, h.output, h.size, fun k hk _ => h.block k hk⟩
theorem OwnI.grown {T : TypeId} {w w' : World} {lo hi : Nat} {v : Value} {xs : List Int} {o : Option Nat} (h : OwnI T w lo hi v xs) (hg : w.grownBy w' o) (hne : ∀ k, v.ownBlock = some k → o ≠ some k) : OwnI T w' lo hi v xs :=
  ⟨ownsRow_of_block h.1 fun k hk => hg.block k (Own.block h hk).2.2 fun e => hne k hk e.symm, h.2⟩
theorem OwnF.grown2 {T : TypeId} {w w' : World} {lo hi n : Nat} {v : Value} {f : Nat → Value} {o : Option Nat} (h : OwnF w lo hi T v n f) (hg : w.grownBy w' o) (hne : ∀ k, v.ownBlock = some k → o ≠ some k) : OwnF w' lo hi T v n f := by
  obtain ⟨xs, h, hf⟩ := h
  exact ⟨xs, ⟨ownsRow_of_block h.1 fun k hk => hg.block k (h.block hk).2.2 fun e => hne k hk e.symm, h.2⟩, hf⟩

/-- the rows of a list as a function -/
def xOf (R : Nat → List Int) (k j : Nat) : Int := (R k).getD j 0
theorem NfRow.piv {P : Int} {n t : Nat} {M0 : Nat → Nat → Int} {R : Nat → List Int} {q : Nat → Nat} (h : NfRow P n M0 (xOf R) q t) (hok : RowOk P n (R t)) : pivL (R t) = q t := by
  obtain ⟨b1, b2, b3, v, b4, b5⟩ := h
  refine pivL_at (by rw [hok.1]; exact b1) ?_ fun j hj => ?_
  · have e : (R t).getD (q t) 0 = _ := b5 (q t) b1
    rw [e, b4]; decide
  · have e : (R t).getD j 0 = _ := b5 j (by omega)
    rw [e, b2 j hj, Int.mul_zero]; rfl
theorem pivot_q (v : Value) (xs : List Int) (Q : Nat) (w : World) (h : Ints w v xs) (hq : pivL xs = (Q : Nat)) :
    Calls Try.prog 43 #[v] w fun e w' => e = .returned (.int .i64 (Q : Int)) ∧ Below w.heap.size w w' := by
  rw [← hq]
  exact (pivot_any v xs w h).mono fun e w' ⟨r1, r2⟩ => ⟨r1, r2.below _⟩
theorem cell_grown {w w' : World} {a : Addr} {v : Value} {g : Nat} (hg : w.grownBy w' (some g)) (hne : a.block ≠ g) (h : w.cell? a = some v) : w'.cell? a = some v := by
  rw [World.cell?_of_block (w := w) (hg.block _ (World.block_lt_of_cell? _ _ h) (fun e => hne (Option.some.inj e)))]
  exact h
/-- what NormalFlag returns -/
def NfIs (P R C : Int) (D : List Int) (m : Mx) (ok : Bool) : Prop :=
  (IsFl P R C D ∧ ok = true ∧ ∃ X q, NfUp P C.toNat (mf C.toNat fun t => D.getD t 0) X q C.toNat ∧ m = ⟨P, C, C, flatM C.toNat C.toNat X⟩) ∨ (¬ IsFl P R C D ∧ ok = false ∧ m = mxZero)
theorem NfIs.one {P R C : Int} {D : List Int} (m : Mx) (b : Bool) (m' : Mx) (b' : Bool) (h : NfIs P R C D m b) (h' : NfIs P R C D m' b') : m = m' ∧ b = b' := by
  rcases h with ⟨t, rfl, X, q, h1, rfl⟩ | ⟨t, rfl, rfl⟩
  · rcases h' with ⟨_, rfl, X', q', h1', rfl⟩ | ⟨t', _, _⟩
    · obtain ⟨n, _, rfl, _, _, _, _, hP, _⟩ := t.facts
      have := (NfUp.one hP _ h1 h1').2
      exact ⟨by rw [flatM_congr this], rfl⟩
    · exact absurd t t'
  · rcases h' with ⟨t', _, _⟩ | ⟨_, rfl, rfl⟩
    · exact absurd t' t
    · exact ⟨rfl, rfl⟩
theorem norm_len (P R C : Int) (D : List Int) : (Classical.epsilon (PrQ (NfIs P R C D))).1.D.length ≤ 1000 := by
  rcases PrQ.spec (NfIs P R C D) with h | ⟨_, h⟩
  · rcases h with ⟨t, _, X, q, _, h⟩ | ⟨_, _, h⟩
    · obtain ⟨n, _, rfl, _, hn, _⟩ := t.facts
      rw [h]
      show (flatM _ _ X).length ≤ 1000
      rw [flatM_length]
      simp only [Int.toNat_natCast]
      have := Nat.mul_le_mul hn hn
      omega
    · rw [h]; simp [mxZero]
  · rw [h]; simp [mxZero]

set_option maxRecDepth 100000 in
set_option maxHeartbeats 2000000 in
theorem implNorm_no (P R C : Int) (d : Value) (D : List Int) (w : World) (hd : Ints w d D) (h : ¬ IsFl P R C D) :
    Calls Try.prog 13 #[.agg #[.int .i64 P, .int .i64 R, .int .i64 C, d]] w (RetMB w mxZero false) := by
  have Hd := Lib.hid hd
  have Hk := Lib.hid h
  obtain ⟨pd, kd, rfl, _⟩ := hd
  clear h
  obtain ⟨z1, z2⟩ := box2_start w 34 34 P R C (.slice pd D.length kd)
  have HB0 := Lib.hid (below_alloc2 w (.cells #[.int .i64 P, .int .i64 R, .int .i64 C, .slice pd D.length kd] 34) (.cells #[.int .i64 0, .int .i64 0, .int .i64 0, .slice none 0 0] 34))
  have Z1 := Lib.hid z1
  have Z2 := Lib.hid z2
  clear z1 z2
  go_enter Try.func13, Try.ntmps13
  go_wp2_with fail
  have hs0 : ((w.alloc (.cells #[.int .i64 P, .int .i64 R, .int .i64 C, .slice pd D.length kd] 34)).alloc (.cells #[.int .i64 0, .int .i64 0, .int .i64 0, .slice none 0 0] 34)).heap.size = w.heap.size + 1 + 1 := by simp
  generalize (w.alloc (.cells #[.int .i64 P, .int .i64 R, .int .i64 C, .slice pd D.length kd] 34)).alloc (.cells #[.int .i64 0, .int .i64 0, .int .i64 0, .slice none 0 0] 34) = w1 at *
  refine (implFlag_no _ _ _ _ _ Hk.out _ (Hd.out.below HB0.out)).mono ?_
  rintro e w2 ⟨rfl, hb⟩
  have HB2 := Lib.hid (HB0.out.trans (hb.mono HB0.out.size))
  have ZZ2 := Lib.hid (blk_later Z2.out hb)
  clear hb
  obtain ⟨d0, d1, d2, d3, df, dz⟩ := blk4 ZZ2.out
  obtain ⟨f0, f1, f2, f3, ff, fz⟩ := blk4 (set4_all ZZ2.out (.int .i64 0) (.int .i64 0) (.int .i64 0) (.slice none 0 0))
  go_wp2_with fail
  refine bodyPost_ret (v := .tuple #[.agg #[.int .i64 0, .int .i64 0, .int .i64 0, .slice none 0 0], .bool false]) (by simp [results, Try.results13, go_sem, f0, f1, f2, f3, fz]) rfl ⟨_, rfl, ?_, ?_⟩
  · exact ⟨World.ownsRow_nil _ _ _ _, fun k hk => by simp [Value.ownBlock] at hk⟩
  · exact below_set4 HB2.out (by omega) _ _ _ _

set_option maxRecDepth 100000 in
set_option maxHeartbeats 16000000 in
theorem implNorm_yes (P : Int) (n : Nat) (d : Value) (D : List Int) (w : World) (hd : Ints w d D) (h : IsFl P n n D) (hD : D.length = n * n) (hrg : ∀ t, 0 ≤ D.getD t 0 ∧ D.getD t 0 < P) (hP : primeOk P = true) (hn0 : 1 ≤ n) (hn : n ≤ 7) (hrk : HasRank P n n (mf n fun t => D.getD t 0) n) :
    Calls Try.prog 13 #[.agg #[.int .i64 P, .int .i64 (n : Int), .int .i64 (n : Int), d]] w fun e w' => ∃ m, RetMB w m true e w' ∧ ∃ X q, NfUp P n (mf n fun t => D.getD t 0) X q n ∧ m = ⟨P, n, n, flatM n n X⟩ := by
  obtain ⟨hP2, hP7⟩ := primeOk_range hP
  have Hd := Lib.hid hd
  have Hk := Lib.hid h
  have HD := Lib.hid hD
  have Hrg := Lib.hid hrg
  have Hrk := Lib.hid hrk
  have HP := Lib.hid hP
  obtain ⟨pd, kd, rfl, ⟨_, mx⟩, _⟩ := hd
  unfold maxLen at mx
  obtain ⟨z1, z2⟩ := box2_start w 34 34 P n n (.slice pd D.length kd)
  have HB0 := Lib.hid (below_alloc2 w (.cells #[.int .i64 P, .int .i64 n, .int .i64 n, .slice pd D.length kd] 34) (.cells #[.int .i64 0, .int .i64 0, .int .i64 0, .slice none 0 0] 34))
  have Z1 := Lib.hid z1
  have Z2 := Lib.hid z2
  clear z1 z2 h hD hrg hrk hP
  go_enter Try.func13, Try.ntmps13
  go_wp2_with fail
  have hs0 : ((w.alloc (.cells #[.int .i64 P, .int .i64 n, .int .i64 n, .slice pd D.length kd] 34)).alloc (.cells #[.int .i64 0, .int .i64 0, .int .i64 0, .slice none 0 0] 34)).heap.size = w.heap.size + 1 + 1 := by simp
  generalize (w.alloc (.cells #[.int .i64 P, .int .i64 n, .int .i64 n, .slice pd D.length kd] 34)).alloc (.cells #[.int .i64 0, .int .i64 0, .int .i64 0, .slice none 0 0] 34) = w1 at *
  refine (implFlag_yes _ _ _ _ _ Hk.out _ (Hd.out.below HB0.out)).mono ?_
  rintro e w2 ⟨rfl, hb⟩
  have hs2 := hb.size
  have HB2 := Lib.hid (HB0.out.trans (hb.mono HB0.out.size))
  have ZA2 := Lib.hid (blk_later Z1.out hb)
  have ZZ2 := Lib.hid (blk_later Z2.out hb)
  clear hb Z1 Z2
  have HBa := Lib.hid (below_alloc w2 (.cells #[] 24))
  obtain ⟨m0, m1, m2, m3, mf', mz⟩ := blk4 (blk_later ZA2.out HBa.out)
  go_wp2_with fail
  have hs2a : (w2.alloc (.cells #[] 24)).heap.size = w2.heap.size + 1 := by simp
  have Hm0 := Lib.hid (OwnF.made0 w2 24 (fun k => undef))
  generalize w2.alloc (.cells #[] 24) = wb at *
  refine (lines_any P n n _ D _ (Hd.out.below (HB2.out.trans (HBa.out.mono HB2.out.size))) (by omega) (by omega) hn0 HD.out).mono ?_
  rintro e w3 ⟨u, rfl, hoL, hb3⟩
  obtain ⟨f, g1, g2, g3⟩ := hoL
  rw [rowsOf_length] at g1 g2 g3
  obtain ⟨LA, hLA⟩ : ∃ x, x = wb.heap.size := ⟨_, rfl⟩
  obtain ⟨HA, hHA⟩ : ∃ x, x = w3.heap.size := ⟨_, rfl⟩
  rw [← hLA, ← hHA] at g1 g2
  have hs3 := hb3.size
  obtain ⟨qL, gL, rfl, hgL1, hgL2, _⟩ := g1.shape
  unfold maxLen at hgL2
  have G3 := Lib.hid g3
  have hbw3 : Below w2.heap.size w2 w3 := HBa.out.trans (hb3.mono (by omega))
  have Hst0 := Lib.hid g1
  have Hst1 := Lib.hid g2
  have Hst2 := Lib.hid (Hm0.out.below hb3)
  have Hbw3 := Lib.hid hbw3
  have Hne0 : Hid (∀ b, (Value.slice (some ⟨w2.heap.size, 0, none⟩) 0 0).ownBlock = some b → (Value.slice qL n gL).ownBlock ≠ some b) := Lib.hid (fun b hb e => by
    have h1 := (g1.blocks b e).1
    simp [Value.ownBlock] at hb
    omega)
  clear g1 g2 g3 hb3 hbw3 m0 m1 m2 m3 mf' mz Hm0 HBa
  go_wp2_with fail
  go_loopg [4, 17] n (fun g s4 s17 wr => ∃ (i : Nat) (q : Nat → Nat) (R : Nat → List Int), i ≤ n ∧ g = n - i ∧ s17 = .int .i64 i ∧ HA ≤ wr.heap.size ∧
    Hid (Below w2.heap.size w2 wr) ∧ Hid (OwnF wr LA HA 24 (.slice qL n gL) n f) ∧ Hid (∀ k, k < n → OwnI 3 wr LA HA (f k) (R k)) ∧ Hid (OwnF wr w2.heap.size wr.heap.size 24 s4 i f) ∧ Hid (∀ b, s4.ownBlock = some b → (Value.slice qL n gL).ownBlock ≠ some b) ∧
    Hid (∀ k, k < n → RowOk P n (R k)) ∧ Hid (NfUp P n (mf n fun t => D.getD t 0) (xOf R) q i) ∧ Hid (∀ k j, i ≤ k → k < n → j < n → (R k).getD j 0 = (mf n fun t => D.getD t 0) k j))
  case atStart =>
    refine ⟨0, fun _ => 0, fun k => (rowsOf n n D).getD k [], Nat.zero_le _, rfl, rfl, by omega, Hbw3.out, Hst0.out, Hst1.out, ?_, Hne0.out, fun k hk => ?_, fun k hk => absurd hk (Nat.not_lt_zero _), fun k j _ hk hj => ?_⟩
    · exact (OwnF.congr Hst2.out fun j hj => absurd hj (Nat.not_lt_zero _)).mono (Nat.le_refl _) (by omega)
    · exact rowsOf_ok HD.out Hrg.out k (by rw [rowsOf_length]; exact hk)
    · show ((rowsOf n n D).getD k []).getD j 0 = _
      rw [rowsOf_getD hk, rowAt_getD hj]
      rfl
  case round =>
    obtain ⟨i, q, R, hi, rfl, rfl, hszw, hbw, hln, hrw, hou, hne, hok, hup, hrest⟩ := hrel
    obtain ⟨p4, k4, rfl, hk4, hk4b, _⟩ := hou.out.shape
    unfold maxLen at hk4b
    obtain ⟨wi, rfl⟩ : ∃ x : World, x = wr := ⟨_, rfl⟩
    have hswi := hbw.out.size
    by_cases hin : i < n
    · obtain ⟨gl, rfl, hgl1, hgl2, hgl3⟩ := hln.out.at_ (by omega)
      have cl := hln.out.cell hin
      have hoi := hrw.out i hin
      obtain ⟨pi, ki, ei, hki1, hki2⟩ := hoi.shapeC (hok.out i hin).1
      unfold maxLen at hki2
      obtain ⟨gi, hpi, _, _, _⟩ : ∃ g, pi = some ⟨g, 0, none⟩ ∧ LA ≤ g ∧ g < HA ∧ g < wi.heap.size := by
        have := hoi
        rw [ei] at this
        exact OwnF.at_ (OwnF.cut this.fn (hok.out i hin).1) (by omega)
      subst hpi
      rw [ei] at cl
      have hin2 : (i : Int) < (n : Int) := by omega
      have Hoi := Lib.hid hoi
      have Hei := Lib.hid ei
      have Hcl := Lib.hid cl
      clear hoi ei
      go_wp2_with fail
      clear cl
      go_loopg [23] i (fun g s23 wr => ∃ (t : Nat) (cur : List Int), t ≤ i ∧ g = i - t ∧ s23 = .int .i64 t ∧ Hid (wi.grownBy wr (f i).ownBlock) ∧ Hid (OwnI 3 wr LA HA (f i) cur) ∧ Hid (RowOk P n cur) ∧ Hid (∀ j, j < n → cur.getD j 0 = elN P (xOf R) q ((mf n fun t => D.getD t 0) i) t j))
      case atStart => exact ⟨0, R i, Nat.zero_le _, rfl, rfl, World.grownBy.refl _ _, Hoi.out, hok.out i hin, fun j hj => hrest.out i j (Nat.le_refl _) hin hj⟩
      case round =>
        obtain ⟨t, cur, ht, rfl, rfl, hg, hoc, hcok, hcv⟩ := hrel
        obtain ⟨wx, rfl⟩ : ∃ x : World, x = wr := ⟨_, rfl⟩
        have hswx := hg.out.size
        have hcl := hcok.out.1
        have hbx : Below w2.heap.size w2 wx := hbw.out.trans ⟨hg.out.os, hg.out.tape, hg.out.output, hg.out.size, fun k hk => hg.out.block k (by omega) fun e => by have := (Own.block Hoi.out e.symm).1; omega⟩
        have Hbx := Lib.hid hbx
        obtain ⟨m0, m1, m2, m3, mf', mz⟩ := blk4 ((hbx.block _ (by omega)).trans ZA2.out)
        clear hbx
        by_cases hti : t < i
        · have htn : t < n := by omega
          obtain ⟨g4, rfl, _, _, _⟩ := hou.out.at_ (by omega)
          have hoX := hou.out.grown2 hg.out fun k hk e => own_types hou.out Hoi.out (by decide) hk e
          have c4 := hoX.cell hti
          have hxt := (hrw.out t htn).grown hg.out fun k hk e => G3.out t i hti hin k hk e
          have htok := hok.out t htn
          obtain ⟨pt, kt, et, hkt1, hkt2⟩ := hxt.shapeC htok.1
          unfold maxLen at hkt2
          have hneb : ∀ b, (f i).ownBlock = some b → (f t).ownBlock ≠ some b := fun b hb e => G3.out t i hti hin b e hb
          obtain ⟨Q, hQ⟩ : ∃ Q, Q = q t := ⟨_, rfl⟩
          have hnf := hup.out t hti
          have hQn : Q < n := by rw [hQ]; exact hnf.1
          have hpv : pivL (R t) = Q := by rw [hQ]; exact hnf.piv htok
          rw [et] at hxt c4 hneb
          have hocE : OwnI 3 wx LA HA (.slice (some ⟨gi, 0, none⟩) n ki) cur := by rw [← Hei.out]; exact hoc.out
          have c2 := (OwnF.cut hocE.fn hcl).cell hQn
          obtain ⟨y, hy⟩ : ∃ y, y = cur.getD Q 0 := ⟨_, rfl⟩
          have hyr := hcok.out.2 Q
          rw [← hy] at hyr
          unfold iv at c2
          rw [← hy] at c2
          have hneb2 : ∀ b, (Value.slice (some ⟨gi, 0, none⟩) n ki).ownBlock = some b → (Value.slice pt n kt).ownBlock ≠ some b := by rw [← Hei.out]; exact hneb
          have Hadd := Lib.hid (fun W (h1 : OwnI 3 W LA HA (.slice (some ⟨gi, 0, none⟩) n ki) cur) (h2 : Ints W (.slice pt n kt) (R t)) => addRow_any _ _ cur (R t) (P - y) P LA HA W h1 h2 hneb2 (by rw [hcl, htok.1]; exact Nat.le_refl _) (hcok.out.small hP7) (htok.small hP7) (by omega) (by omega))
          have HocE := Lib.hid hocE
          have Hxt := Lib.hid hxt
          have Hpv := Lib.hid hpv
          have Hy := Lib.hid hy
          have HQ := Lib.hid hQ
          have Hcl := Lib.hid hcl
          have ht5 : (t : Int) < (i : Int) := by omega
          have hQ2 : (Q : Int) < (n : Int) := by omega
          have Hw := Lib.hid (show IntKind.i64.wrap (P - y) = P - y from k64 (by omega) (by omega))
          have C2 := Lib.hid c2
          clear hoX hxt hneb hneb2 hpv hocE hy hQ hnf htok c2 hcl et
          go_wp2_with fail
          refine wp_region_held_drew (S := (fun w' => w'.cell? ⟨w.heap.size, 0, none⟩ = some (.int .i64 P))) (by kernel_rfl) ?_ (fun hHeld => ?_)
          · exact m0
          refine wpAnyH_take (i := 0) (v := .slice (some ⟨gi, 0, none⟩) n ki) rfl (by kernel_rfl) (by kernel_rfl) (by kernel_rfl) (fun _ _ _ h => h) (Or.inl ⟨by rfl, fun w hSw => by dsimp only at hSw; go_simp⟩) (by assumption) ?_
          try simp only [Act.put, List.getElem_toArray, List.getElem_cons_succ, List.getElem_cons_zero, List.setIfInBounds_toArray, List.set_cons_zero, List.set_cons_succ]
          refine wpAnyH_take (i := 1) (v := .pointer (some ⟨w.heap.size, 0, none⟩)) rfl (by kernel_rfl) (by kernel_rfl) (by kernel_rfl) (fun _ _ _ h => h) (Or.inl ⟨by rfl, fun w hSw => by dsimp only at hSw; go_simp⟩) (by assumption) ?_
          try simp only [Act.put, List.getElem_toArray, List.getElem_cons_succ, List.getElem_cons_zero, List.setIfInBounds_toArray, List.set_cons_zero, List.set_cons_succ]
          refine wpAnyH_take (i := 2) (v := .int .i64 P) rfl (by kernel_rfl) (by kernel_rfl) (by kernel_rfl) (fun _ _ _ h => h) (Or.inl ⟨by rfl, fun w hSw => by dsimp only at hSw; go_simp⟩) (by assumption) ?_
          try simp only [Act.put, List.getElem_toArray, List.getElem_cons_succ, List.getElem_cons_zero, List.setIfInBounds_toArray, List.set_cons_zero, List.set_cons_succ]
          refine wpAnyH_take (i := 3) (v := .slice (some ⟨gi, 0, none⟩) n ki) rfl (by kernel_rfl) (by kernel_rfl) (by kernel_rfl) (fun _ _ _ h => h) (Or.inl ⟨by rfl, fun w hSw => by dsimp only at hSw; go_simp⟩) (by assumption) ?_
          try simp only [Act.put, List.getElem_toArray, List.getElem_cons_succ, List.getElem_cons_zero, List.setIfInBounds_toArray, List.set_cons_zero, List.set_cons_succ]
          refine wpAnyH_take (i := 4) (v := .slice pt n kt) rfl (by kernel_rfl) (by kernel_rfl) (by kernel_rfl) (fun _ _ _ h => h) (Or.inl ⟨by rfl, fun w hSw => by dsimp only at hSw; go_simp⟩) (by assumption) ?_
          try simp only [Act.put, List.getElem_toArray, List.getElem_cons_succ, List.getElem_cons_zero, List.setIfInBounds_toArray, List.set_cons_zero, List.set_cons_succ]
          refine wpAnyH_take (i := 9) (v := .slice pt n kt) rfl (by kernel_rfl) (by kernel_rfl) (by kernel_rfl) (fun _ _ _ h => h) (Or.inl ⟨by rfl, fun w hSw => by dsimp only at hSw; go_simp⟩) (by assumption) ?_
          try simp only [Act.put, List.getElem_toArray, List.getElem_cons_succ, List.getElem_cons_zero, List.setIfInBounds_toArray, List.set_cons_zero, List.set_cons_succ]
          refine wpAnyH_take (i := 10) (v := .pointer (some ⟨w.heap.size, 0, none⟩)) rfl (by kernel_rfl) (by kernel_rfl) (by kernel_rfl) (fun _ _ _ h => h) (Or.inl ⟨by rfl, fun w hSw => by dsimp only at hSw; go_simp⟩) (by assumption) ?_
          try simp only [Act.put, List.getElem_toArray, List.getElem_cons_succ, List.getElem_cons_zero, List.setIfInBounds_toArray, List.set_cons_zero, List.set_cons_succ]
          refine wpAnyH_take (i := 11) (v := .int .i64 P) rfl (by kernel_rfl) (by kernel_rfl) (by kernel_rfl) (fun _ _ _ h => h) (Or.inl ⟨by rfl, fun w hSw => by dsimp only at hSw; go_simp⟩) (by assumption) ?_
          try simp only [Act.put, List.getElem_toArray, List.getElem_cons_succ, List.getElem_cons_zero, List.setIfInBounds_toArray, List.set_cons_zero, List.set_cons_succ]
          refine wpAnyH_ready (rs := [5]) (by kernel_rfl) (by simp) ?_
          refine AllReadyH.cons rfl (fun K hK => ?_) AllReadyH.nil
          go_simp
          refine (pivot_q _ (R t) Q _ (Hxt.out.ints.below (Below.refl _ _).drew) Hpv.out).mono ?_
          rintro e wp ⟨rfl, hb1⟩
          have hbz : Below wx.heap.size wx wp := below_of_drew hb1
          have mp := cell_below hbz m0
          go_wp2_with fail
          refine hK.out _ _ mp (fun hHeld => ?_)
          clear hK K
          try simp only [Act.put, List.getElem_toArray, List.getElem_cons_succ, List.getElem_cons_zero, List.setIfInBounds_toArray, List.set_cons_zero, List.set_cons_succ]
          refine wpAnyH_take (i := 6) (v := .pointer (some ⟨gi, Q, none⟩)) rfl (by kernel_rfl) (by kernel_rfl) (by kernel_rfl) (fun _ _ _ h => h) (Or.inl ⟨by rfl, fun w hSw => by dsimp only at hSw; go_simp⟩) (by assumption) ?_
          try simp only [Act.put, List.getElem_toArray, List.getElem_cons_succ, List.getElem_cons_zero, List.setIfInBounds_toArray, List.set_cons_zero, List.set_cons_succ]
          refine wpAnyH_ready (rs := [7]) (by kernel_rfl) (by simp) ?_
          refine AllReadyH.cons rfl (fun K hK => ?_) AllReadyH.nil
          have c2 := cell_below hbz C2.out
          go_simp
          refine hK.out _ _ mp (fun hHeld => ?_)
          clear hK K
          have hw := Hw.out
          try simp only [Act.put, List.getElem_toArray, List.getElem_cons_succ, List.getElem_cons_zero, List.setIfInBounds_toArray, List.set_cons_zero, List.set_cons_succ]
          refine wpAnyH_take (i := 8) (v := .int .i64 (P - y)) rfl (by kernel_rfl) (by kernel_rfl) (by kernel_rfl) (fun _ _ _ h => h) (Or.inl ⟨by rfl, fun w hSw => by dsimp only at hSw; go_simp⟩) (by assumption) ?_
          try simp only [Act.put, List.getElem_toArray, List.getElem_cons_succ, List.getElem_cons_zero, List.setIfInBounds_toArray, List.set_cons_zero, List.set_cons_succ]
          clear hw c2
          refine wpAnyH_ready (rs := [12]) (by kernel_rfl) (by simp) ?_
          refine AllReadyH.cons rfl (fun K hK => ?_) AllReadyH.nil
          go_simp
          refine (Hadd.out _ (HocE.out.below hbz) (Hxt.out.ints.below hbz)).mono ?_
          rintro e wz ⟨rfl, hoz, hgz⟩
          have hgi := (Own.block (HocE.out.below hbz) rfl).1
          have mz1 : wz.cell? ⟨w.heap.size, 0, none⟩ = some (.int .i64 P) := cell_grown hgz (by show w.heap.size ≠ gi; omega) mp
          have Hoz := Lib.hid hoz
          have Hgz := Lib.hid (grown_trans (grown_below hbz) hgz)
          clear hoz hgz
          go_wp2_with fail
          refine hK.out _ _ mz1 (fun hHeld => ?_)
          clear hK K mz1 mp
          try simp only [Act.put, List.getElem_toArray, List.getElem_cons_succ, List.getElem_cons_zero, List.setIfInBounds_toArray, List.set_cons_zero, List.set_cons_succ]
          refine wpAnyH_done (by kernel_rfl) ?_ _
          clear m0 m1 m2 m3 mf' mz c4
          go_wp2_with fail
          go_roundg (i - (t + 1))
          case measure => omega
          case rel =>
            have hcl := Hcl.out
            refine ⟨t + 1, addRowL P (P - y) cur (R t), by omega, rfl, by go_num, ?_, by rw [Hei.out]; exact Hoz.out, addRowL_ok hP2 hcl, fun j hj => ?_⟩
            · have := Hgz.out
              rw [Hei.out] at hg ⊢
              exact grown_trans hg.out this
            · rw [addRowL_getD (by omega), hcv.out j hj, Hy.out, hcv.out Q hQn, HQ.out]
              rfl
        · obtain rfl : i = t := by omega
          have hleft := hup.out.left HP.out (fun k j hj => Hrg.out _) Hrk.out hin
          have hcl := hcok.out.1
          rcases pivL_cases cur with ⟨hp1, h0⟩ | ⟨K, hp1, hK, hKn, hK0⟩
          · exfalso
            apply hleft
            intro j hj
            exact (hcv.out j hj).symm.trans (h0 j (by rw [hcl]; exact hj))
          · have hocE : OwnI 3 wx LA HA (.slice (some ⟨gi, 0, none⟩) n ki) cur := by rw [← Hei.out]; exact hoc.out
            have Hsc := Lib.hid (fun W (h1 : OwnI 3 W LA HA (.slice (some ⟨gi, 0, none⟩) n ki) cur) => scaledTo1_any _ cur P K LA HA W h1 hcok.out.2 HP.out hp1 hK hKn)
            have HocE := Lib.hid hocE
            have HKn := Lib.hid hKn
            have HK0 := Lib.hid hK0
            have hKlt : K < n := by omega
            have Hcc := Lib.hid hcl
            have Hbd1 := Lib.hid (show i + 1 ≤ maxLen by unfold maxLen; omega)
            have Hbd2 := Lib.hid (show (i + 1) * 24 ≤ 140737488355328 by omega)
            clear hocE hKn hK0 hp1 hleft hcl hK
            go_wp2_with fail
            refine (Hsc.out _ HocE.out).mono ?_
            rintro e wz ⟨k0, rfl, hka, hkb, hkc, hoz, hgz⟩
            have hg2 : wi.grownBy wz (f i).ownBlock := grown_trans hg.out (by rw [Hei.out]; exact hgz)
            have Hg2 := Lib.hid hg2
            have hswz := hg2.size
            have Hou2 := Lib.hid (hou.out.grown2 hg2 fun k hk e => own_types hou.out Hoi.out (by decide) hk e)
            have Hln2 := Lib.hid (hln.out.grown2 hg2 fun k hk e => own_types hln.out Hoi.out (by decide) hk e)
            have Hrw2 := Lib.hid (fun k (hk : k < n) (hki : k ≠ i) => (hrw.out k hk).grown hg2 fun b hb e => by
              rcases Nat.lt_or_gt_of_ne hki with h | h
              · exact G3.out k i h hin b hb e
              · exact G3.out i k h hk b e hb)
            have Hoz := Lib.hid (show OwnI 3 wz LA HA (f i) (scaleL P k0 cur) by rw [Hei.out]; exact hoz)
            have Hkc := Lib.hid hkc
            have hbz : Below w2.heap.size w2 wz := hbw.out.trans ⟨hg2.os, hg2.tape, hg2.output, hg2.size, fun k hk => hg2.block k (by omega) fun e => by have := (Own.block Hoi.out e.symm).1; omega⟩
            have Hbz := Lib.hid hbz
            clear hg2 hgz hoz hkc hbz m0 m1 m2 m3 mf' mz
            go_wp2_with (at_builtin; go_must (refine wpList_append_G rfl (.tmp 45) (.tmp 47) 42 rfl 24 (.slice none 0 0) 24 Try.underlying42 info_sl rfl w2.heap.size wi.heap.size _ i f rfl (Hou2.out.below (below_alloc _ _)) (by simp; omega) (by simp; omega) _ _ _ rfl (rd_one _ _ _ rfl) (fun j _ => rfl) Hbd1.out Hbd2.out ?_; intro v' w' ho' hg' hwh))
            have hsw' := hg'.size
            simp only [size_alloc] at hsw'
            have hal := below_alloc wz (.cells #[.slice (some ⟨gi, 0, none⟩) n ki] 24)
            have hou3 := Hou2.out.below hal
            have hrow3 : ∀ k xs, OwnI 3 wz LA HA (f k) xs → OwnI 3 w' LA HA (f k) xs := fun k xs hx => (OwnI.below hx hal).grown hg' fun b hb e => own_types hou3 (OwnI.below hx hal) (by decide) e hb
            obtain ⟨R', hR'⟩ : ∃ R' : Nat → List Int, R' = fun k => if k = i then scaleL P k0 cur else R k := ⟨_, rfl⟩
            have hRi : R' i = scaleL P k0 cur := by rw [hR']; simp
            have hRk : ∀ k, k ≠ i → R' k = R k := fun k hk => by rw [hR']; simp [hk]
            obtain ⟨q', hq'⟩ : ∃ q' : Nat → Nat, q' = fun k => if k < i then q k else K := ⟨_, rfl⟩
            have hqk : ∀ k, k < i → q' k = q k := fun k hk => by rw [hq']; simp [hk]
            have hqi : q' i = K := by rw [hq']; simp
            go_roundg (n - (i + 1))
            case measure => omega
            case rel =>
              refine ⟨i + 1, q', R', by omega, rfl, by go_num, by omega, ?_, ?_, ?_, ?_, ?_, ?_, ?_, ?_⟩
              · exact Hbz.out.trans ((hal.mono (by omega)).trans (grownBy_below hg' hou3.blocks (Nat.le_refl _) (by simp; omega)))
              · exact (Hln2.out.below hal).grown2 hg' fun b hb e => hne.out b e hb
              · intro k hk
                by_cases e : k = i
                · subst e; rw [hRi]; exact hrow3 k _ Hoz.out
                · rw [hRk k e]; exact hrow3 k _ (Hrw2.out k hk e)
              · exact ho'.congr fun j hj => by
                  by_cases e : j < i
                  · simp only [e, if_true]
                  · obtain rfl : j = i := by omega
                    simp only [Nat.lt_irrefl, if_false]
                    exact Hei.out.symm
              · intro b hb e
                rcases hwh b hb with h | h
                · exact hne.out b h e
                · have := (hln.out.blocks b e).2
                  simp only [size_alloc] at h
                  omega
              · intro k hk
                by_cases e : k = i
                · subst e; rw [hRi]; exact scaleL_ok hP2 Hcc.out
                · rw [hRk k e]; exact hok.out k hk
              · have hX : ∀ k j, k < i → j < n → xOf R' k j = xOf R k j := fun k j hk _ => by unfold xOf; rw [hRk k (by omega)]
                have hc := elN_congr (P := P) (r := (mf n fun t => D.getD t 0) i) i (fun l hl => (hup.out l hl).1) (fun l hl => (hqk l hl).symm) (fun l j hl hj => (hX l j hl hj).symm)
                refine hup.out.snoc hX hqk ⟨by rw [hqi]; exact hKlt, fun j hj => ?_, ?_, k0, ?_, fun j hj => ?_⟩
                · rw [hqi] at hj; rw [← hc j (by omega), ← hcv.out j (by omega)]; exact HK0.out j hj
                · rw [hqi, ← hc K hKlt, ← hcv.out K hKlt]; exact HKn.out
                · rw [hqi, ← hc K hKlt, ← hcv.out K hKlt]; exact Hkc.out
                · rw [← hc j hj, ← hcv.out j hj]
                  show (R' i).getD j 0 = _
                  rw [hRi]
                  exact scaleL_getD (by rw [Hcc.out]; exact hj)
              · exact fun k j hk hk2 hj => by rw [hRk k (by omega)]; exact hrest.out k j (by omega) hk2 hj
    · obtain rfl : n = i := by omega
      obtain ⟨L, hL⟩ : ∃ L, L = (List.range n).map R := ⟨_, rfl⟩
      have hLl : L.length = n := by rw [hL]; simp
      have hLg : ∀ k, k < n → L.getD k [] = R k := fun k hk => by rw [hL]; simp [List.getD_eq_getElem?_getD, hk]
      have hrd : RdII wi (.slice p4 n k4) L := ⟨f, by rw [hLl]; exact hou.out.rd, fun k hk => by rw [hLl] at hk; rw [hLg k hk]; exact (hrw.out k hk).ints⟩
      have hlr : ∀ k, k < L.length → (L.getD k []).length = n := fun k hk => by rw [hLl] at hk; rw [hLg k hk]; exact (hok.out k hk).1
      have hfl : L.flatten = flatM n n (xOf R) := by
        have a := flatM_rows hlr
        rw [hLl] at a
        rw [← a]
        exact flatM_congr fun k j hk _ => by unfold mt xOf; rw [hLg k hk]
      have hfl2 : L.flatten.length ≤ 1000000 := by
        rw [hfl, flatM_length]
        have := Nat.mul_le_mul hn hn
        omega
      have Hrd := Lib.hid hrd
      have Hfl := Lib.hid hfl
      have Hfl2 := Lib.hid hfl2
      have HLl := Lib.hid hLl
      have ZAi := Lib.hid ((hbw.out.block _ (by omega)).trans ZA2.out)
      have ZZi := Lib.hid ((hbw.out.block _ (by omega)).trans ZZ2.out)
      have HBi := Lib.hid (HB2.out.trans (hbw.out.mono HB2.out.size))
      clear hL hLl hLg hrd hlr hfl hfl2
      obtain ⟨m0, m1, m2, m3, mf', mz⟩ := blk4 ZAi.out
      go_wp2_with fail
      refine (matrixOf_any P n _ L _ Hrd.out Hfl2.out).mono ?_
      rintro e w4 ⟨um, rfl, hoM', hb4⟩
      have hoM : OwnI 3 w4 wi.heap.size w4.heap.size um L.flatten := hoM'
      clear hoM'
      obtain ⟨FL, hFL⟩ : ∃ FL, FL = L.flatten := ⟨_, rfl⟩
      rw [← hFL] at hoM
      have HFL := Lib.hid hFL
      obtain ⟨pm, km, rfl, _, _⟩ := hoM.shape
      have HoM := Lib.hid hoM
      have hs4 := hb4.size
      have ZZ4 := Lib.hid (blk_later ZZi.out hb4)
      have HB4 := Lib.hid (HBi.out.trans (hb4.mono HBi.out.size))
      rw [HLl.out]
      clear hoM hb4 hFL m0 m1 m2 m3 mf' mz
      obtain ⟨d0, d1, d2, d3, df, dz⟩ := blk4 ZZ4.out
      obtain ⟨f0, f1, f2, f3, ff, fz⟩ := blk4 (set4_all ZZ4.out (.int .i64 P) (.int .i64 (n : Int)) (.int .i64 (n : Int)) (.slice pm FL.length km))
      go_wp2_with fail
      refine bodyPost_ret (v := .tuple #[.agg #[.int .i64 P, .int .i64 (n : Int), .int .i64 (n : Int), .slice pm FL.length km], .bool true]) (by simp [results, Try.results13, go_sem, f0, f1, f2, f3, fz]) rfl ⟨⟨P, n, n, FL⟩, ⟨_, rfl, ?_, ?_⟩, ?_⟩
      · exact (own_set4 HoM.out (.inl (by omega)) _ _ _ _).mono (by omega) (by simp only [size_setCell]; omega)
      · exact below_set4 HB4.out (by omega) _ _ _ _
      · exact ⟨xOf R, q, hup.out, by rw [HFL.out, Hfl.out]⟩

end Go.Proofs.Ytoodgbflaaabmaa

namespace Go.Proofs.Ytoodgbflaaabmaa
set_option linter.all false
open Go.RowKit

/-- what FlagPerm returns -/
def FpIs (P R C : Int) (D : List Int) (l : List Int) : Prop :=
  (IsFl P R C D ∧ ∃ X q, NfUp P C.toNat (mf C.toNat fun t => D.getD t 0) X q C.toNat ∧ l = (List.range C.toNat).map fun k => (q k : Int)) ∨ (¬ IsFl P R C D ∧ l = [])
theorem FpIs.one {P R C : Int} {D : List Int} (l l' : List Int) (h : FpIs P R C D l) (h' : FpIs P R C D l') : l = l' := by
  rcases h with ⟨t, X, q, h1, rfl⟩ | ⟨t, rfl⟩
  · rcases h' with ⟨_, X', q', h1', rfl⟩ | ⟨t', _⟩
    · obtain ⟨n, _, rfl, _, _, _, _, hP, _⟩ := t.facts
      have := (NfUp.one hP _ h1 h1').1
      refine List.map_congr_left fun k hk => ?_
      rw [this k (by simpa using hk)]
    · exact absurd t t'
  · rcases h' with ⟨t', _⟩ | ⟨_, rfl⟩
    · exact absurd t' t
    · rfl
theorem FpIs.len {P R C : Int} {D : List Int} (l : List Int) (h : FpIs P R C D l) : l.length ≤ 1000 := by
  rcases h with ⟨t, X, q, _, rfl⟩ | ⟨_, rfl⟩
  · obtain ⟨n, _, rfl, _, hn, _⟩ := t.facts
    simp; omega
  · simp
theorem fperm_len (P R C : Int) (D : List Int) : (Classical.epsilon (LsQ (FpIs P R C D))).length ≤ 1000 := LsQ.len FpIs.len
theorem nats_ints {T : TypeId} {w : World} {lo hi n : Nat} {v : Value} {q : Nat → Nat} (h : OwnF w lo hi T v n (fun k => .int .i64 (q k : Int))) : OwnI T w lo hi v ((List.range n).map fun k => (q k : Int)) := by
  refine OwnF.ints ?_
  rw [List.length_map, List.length_range]
  exact h.congr fun k hk => by simp [iv, List.getD_eq_getElem?_getD, hk]


set_option maxRecDepth 100000 in
set_option maxHeartbeats 4000000 in
theorem implFp_no (P R C : Int) (d : Value) (D : List Int) (w : World) (hd : Ints w d D) (h : ¬ IsFl P R C D) :
    Calls Try.prog 16 #[.agg #[.int .i64 P, .int .i64 R, .int .i64 C, d]] w (RetI w []) := by
  have Hd := Lib.hid hd
  have Hk := Lib.hid h
  obtain ⟨pd, kd, rfl, _⟩ := hd
  clear h
  have HB0 := Lib.hid (below_alloc w (.cells #[.int .i64 P, .int .i64 R, .int .i64 C, .slice pd D.length kd] 34))
  have Z1 := Lib.hid (heap_alloc_top w (.cells #[.int .i64 P, .int .i64 R, .int .i64 C, .slice pd D.length kd] 34))
  go_enter Try.func16, Try.ntmps16
  go_wp2_with fail
  have hs0 : (w.alloc (.cells #[.int .i64 P, .int .i64 R, .int .i64 C, .slice pd D.length kd] 34)).heap.size = w.heap.size + 1 := by simp
  generalize w.alloc (.cells #[.int .i64 P, .int .i64 R, .int .i64 C, .slice pd D.length kd] 34) = w1 at *
  refine (implNorm_no P R C _ D _ (Hd.out.below HB0.out) Hk.out).mono ?_
  rintro e w2 ⟨u, rfl, ho, hb⟩
  obtain ⟨pu, ku, rfl, _, _⟩ := ho.shape
  have HB2 := Lib.hid (HB0.out.trans (hb.mono HB0.out.size))
  clear ho hb
  go_wp2_with fail
  go_ret
  exact ⟨_, rfl, ⟨World.ownsRow_nil _ _ _ _, fun k hk => by simp [Value.ownBlock] at hk⟩, HB2.out.trans ((below_alloc _ _).mono HB2.out.size)⟩

set_option maxRecDepth 100000 in
set_option maxHeartbeats 4000000 in
theorem implFp_yes (P : Int) (n : Nat) (d : Value) (D : List Int) (w : World) (hd : Ints w d D) (h : IsFl P n n D) (hD : D.length = n * n) (hrg : ∀ t, 0 ≤ D.getD t 0 ∧ D.getD t 0 < P) (hP : primeOk P = true) (hn0 : 1 ≤ n) (hn : n ≤ 7) (hrk : HasRank P n n (mf n fun t => D.getD t 0) n) :
    Calls Try.prog 16 #[.agg #[.int .i64 P, .int .i64 (n : Int), .int .i64 (n : Int), d]] w fun e w' => ∃ l, RetI w l e w' ∧ ∃ X q, NfUp P n (mf n fun t => D.getD t 0) X q n ∧ l = (List.range n).map fun k => (q k : Int) := by
  have Hd := Lib.hid hd
  have Hk := Lib.hid h
  have HD := Lib.hid hD
  have Hrg := Lib.hid hrg
  have Hrk := Lib.hid hrk
  have HP := Lib.hid hP
  obtain ⟨pd, kd, rfl, ⟨_, mx⟩, _⟩ := hd
  unfold maxLen at mx
  clear h hD hrg hrk hP
  have HB0 := Lib.hid (below_alloc w (.cells #[.int .i64 P, .int .i64 n, .int .i64 n, .slice pd D.length kd] 34))
  have Z1 := Lib.hid (heap_alloc_top w (.cells #[.int .i64 P, .int .i64 n, .int .i64 n, .slice pd D.length kd] 34))
  go_enter Try.func16, Try.ntmps16
  go_wp2_with fail
  have hs0 : (w.alloc (.cells #[.int .i64 P, .int .i64 n, .int .i64 n, .slice pd D.length kd] 34)).heap.size = w.heap.size + 1 := by simp
  generalize w.alloc (.cells #[.int .i64 P, .int .i64 n, .int .i64 n, .slice pd D.length kd] 34) = w1 at *
  refine (implNorm_yes P n _ D _ (Hd.out.below HB0.out) Hk.out HD.out Hrg.out HP.out hn0 hn Hrk.out).mono ?_
  rintro e w2 ⟨m, ⟨u, rfl, ho, hb⟩, X, q, hnf, rfl⟩
  obtain ⟨D2, hD2⟩ : ∃ D2, D2 = flatM n n X := ⟨_, rfl⟩
  have ho2 : OwnI 3 w2 w1.heap.size w2.heap.size u D2 := by rw [hD2]; exact ho
  have hl2 : D2.length = n * n := by rw [hD2, flatM_length]
  clear ho
  obtain ⟨pu, ku, rfl, _, _⟩ := ho2.shape
  have hs2 := hb.size
  have HB2 := Lib.hid (HB0.out.trans (hb.mono HB0.out.size))
  have HI2 := Lib.hid ho2.ints
  have Hl2 := Lib.hid hl2
  have Hpv : Hid (∀ k, k < n → pivL (rowAt n D2 k) = (q k : Nat) ∧ (rowAt n D2 k).length = n) := by
    intro k hk
    have hl : (rowAt n D2 k).length = n := rowAt_length (by rw [hl2]; exact mul_le_of hk)
    have hX : ∀ j, j < n → (rowAt n D2 k).getD j 0 = X k j := fun j hj => by
      rw [rowAt_getD hj, hD2]
      unfold flatM
      have := flat_lt hk hj
      obtain ⟨e1, e2⟩ := div_at (k := k) hj
      simp [List.getD_eq_getElem?_getD, this, e1, e2]
    obtain ⟨b1, b2, b3, v, b4, b5⟩ := hnf k hk
    refine ⟨pivL_at (by rw [hl]; exact b1) ?_ fun j hj => ?_, hl⟩
    · rw [hX _ b1, b5 _ b1, b4]; decide
    · rw [hX j (by omega), b5 j (by omega), b2 j hj, Int.mul_zero]; rfl
  have Hnf := Lib.hid hnf
  clear hb ho2 hl2 hD2 hnf
  go_wp2_with fail
  obtain ⟨bx, hbx⟩ : ∃ bx : Obj, bx = .cells #[.int .i64 P, .int .i64 (n : Int), .int .i64 (n : Int), .slice pu D2.length ku] 34 := ⟨_, rfl⟩
  have hBB : Below w2.heap.size w2 ((w2.alloc bx).alloc (.cells #[] 3)) := below_alloc2 _ _ _
  have hsB : ((w2.alloc bx).alloc (.cells #[] 3)).heap.size = w2.heap.size + 1 + 1 := by simp
  have Hm0 := Lib.hid (OwnF.made0 (w2.alloc bx) 3 (iv []))
  have hsm : (w2.alloc bx).heap.size = w2.heap.size + 1 := by simp
  rw [hsm] at Hm0
  rw [← hbx]
  simp only [hsm] at *
  generalize (w2.alloc bx).alloc (.cells #[] 3) = wB at *
  refine (lines_any P n n _ D2 _ (HI2.out.below hBB) (by omega) (by omega) hn0 Hl2.out).mono ?_
  rintro e w3 ⟨ul, rfl, hoL, hb3⟩
  obtain ⟨f, g1, g2, _⟩ := hoL
  rw [rowsOf_length] at g1 g2
  obtain ⟨qL, gL, rfl, hgL1, hgL2, _⟩ := g1.shape
  unfold maxLen at hgL2
  have hs3 := hb3.size
  have G1 := Lib.hid g1
  have G2 := Lib.hid g2
  have HB3 := Lib.hid (HB2.out.trans ((hBB.trans (hb3.mono (by omega))).mono HB2.out.size))
  have Hm3 := Lib.hid (Hm0.out.below hb3)
  clear g1 g2 hb3 hBB hbx Hm0
  go_wp2_with fail
  go_loopg [5, 19] n (fun g s5 s19 wr => ∃ (k : Nat) (l : List Int), k ≤ n ∧ g = n - k ∧ s19 = .int .i64 k ∧ w3.heap.size ≤ wr.heap.size ∧ Hid (Below w.heap.size w wr) ∧ Hid (OwnI 3 wr (w2.heap.size + 1) wr.heap.size s5 l) ∧ Hid (l = (List.range k).map fun k => (q k : Int)) ∧
    Hid (∀ b, s5.ownBlock = some b → b < wB.heap.size ∨ w3.heap.size ≤ b) ∧ Hid (∀ b, wB.heap.size ≤ b → b < w3.heap.size → wr.heap[b]? = w3.heap[b]?))
  case atStart =>
    refine ⟨0, [], Nat.zero_le _, rfl, rfl, Nat.le_refl _, HB3.out, ?_, rfl, fun b hb => ?_, fun b _ _ => rfl⟩
    · exact OwnF.ints (xs := []) (Hm3.out.mono (Nat.le_refl _) (by omega))
    · simp only [Value.ownBlock, Option.some.injEq] at hb
      omega
  case round =>
    obtain ⟨k, l, hk, rfl, rfl, hsz, hbw, hol, hlv, hne, hkeep⟩ := hrel
    obtain ⟨wr', rfl⟩ : ∃ x : World, x = wr := ⟨_, rfl⟩
    obtain ⟨p5, k5, rfl, hk5, hk5b⟩ := hol.out.shape
    unfold maxLen at hk5b
    by_cases hkn : k < n
    · have hl5 : l.length = k := by rw [hlv.out]; simp
      have hG1 := G1.out.keep (fun b h1 h2 _ => hkeep.out b h1 h2)
      obtain ⟨gl, rfl, _, _, _⟩ := hG1.at_ (by omega)
      have cl := hG1.cell hkn
      have hG2 := Own.keep (G2.out k hkn) (fun b h1 h2 _ => hkeep.out b h1 h2)
      rw [rowsOf_getD hkn] at hG2
      obtain ⟨hpv, hrl⟩ := Hpv.out k hkn
      obtain ⟨pt, kt, et, hkt1, hkt2⟩ := OwnI.shapeC hG2 hrl
      unfold maxLen at hkt2
      have hfi := OwnI.ints hG2
      rw [et] at cl hfi
      have Hfi := Lib.hid hfi
      have Hpq := Lib.hid hpv
      have hkn2 : (k : Int) < (n : Int) := by omega
      have Hl5 := Lib.hid hl5
      have Hl1 := Lib.hid (show l.length + 1 ≤ maxLen by unfold maxLen; omega)
      have Hl2' := Lib.hid (show (l.length + 1) * 8 ≤ 140737488355328 by omega)
      clear hl5 hG1 hG2 hpv hrl et hfi
      go_wp2_with fail
      refine (pivot_q _ _ (q k) _ Hfi.out Hpq.out).mono ?_
      rintro e wp ⟨rfl, hb⟩
      have hsp := hb.size
      have Hol := Lib.hid (hol.out.below hb)
      have Hb := Lib.hid hb
      clear hb cl
      go_wp2_with (at_builtin; go_must (refine wpList_append_G rfl (.tmp 23) (.tmp 26) 24 rfl 3 (.int .i64 0) 8 Try.underlying24 info_int rfl (w2.heap.size + 1) wr'.heap.size _ l.length _ rfl (Hol.out.fn.below (below_alloc _ _)) (by simp; omega) (by simp; omega) _ _ _ rfl (rd_one _ _ _ rfl) (fun j _ => rfl) Hl1.out Hl2'.out ?_; intro v' w' ho' hg' hwh))
      have hol2 := OwnI.snoc1 ho'
      have hsw' := hg'.size
      simp only [size_alloc] at hsw'
      go_roundg (n - (k + 1))
      case measure => omega
      case rel =>
        refine ⟨k + 1, l ++ [(q k : Int)], hkn, rfl, by go_num, by omega, ?_, hol2, ?_, ?_, ?_⟩
        · exact (hbw.out.trans (Hb.out.mono hbw.out.size)).trans (((below_alloc wp _).mono (by have := hbw.out.size; omega)).trans (grownBy_below hg' (OwnF.blocks Hol.out.fn) (by have := HB2.out.size; omega) (by have := hbw.out.size; simp; omega)))
        · show l ++ [(q k : Int)] = _
          rw [hlv.out, List.range_succ, List.map_append]; rfl
        · intro b hb
          rcases hwh b hb with h | h
          · exact hne.out b h
          · simp only [size_alloc] at h
            right; omega
        · intro b h1 h2
          have e1 : w'.heap[b]? = (wp.alloc (.cells #[.int .i64 (q k : Int)] 3)).heap[b]? := hg'.block b (by simp; omega) fun e => by
            rcases hne.out b e.symm with h | h <;> omega
          rw [e1, heap_alloc_low _ _ (by omega), Hb.out.block b (by omega)]
          exact hkeep.out b h1 h2
    · obtain rfl : k = n := by omega
      go_wp2_with fail
      go_ret
      exact ⟨l, ⟨_, rfl, hol.out.mono (by have := HB2.out.size; omega) (Nat.le_refl _), hbw.out⟩, X, q, Hnf.out, hlv.out⟩

theorem implNorm_any (P R C : Int) (d : Value) (D : List Int) (w : World) (hd : Ints w d D) :
    Calls Try.prog 13 #[.agg #[.int .i64 P, .int .i64 R, .int .i64 C, d]] w (RetMB w (Classical.epsilon (PrQ (NfIs P R C D))).1 (Classical.epsilon (PrQ (NfIs P R C D))).2) := by
  suffices hh : Calls Try.prog 13 #[.agg #[.int .i64 P, .int .i64 R, .int .i64 C, d]] w fun e w' => ∃ m ok, NfIs P R C D m ok ∧ RetMB w m ok e w' from
    hh.mono fun e w' ⟨m, ok, h1, h2⟩ => by
      obtain ⟨e1, e2⟩ := PrQ.eps NfIs.one h1
      rw [← e1, ← e2]; exact h2
  rcases Classical.em (IsFl P R C D) with h | h
  · obtain ⟨n, rfl, rfl, hn0, hn, hlD, hD, hP2, hP7, hpr, hrk⟩ := h.facts
    exact (implNorm_yes P n d D w hd h hlD (fun t => getD_range hD (by omega) t) hpr hn0 hn hrk).mono fun e w' ⟨m, r1, X, q, r2, r3⟩ => ⟨m, true, .inl ⟨h, rfl, X, q, r2, r3⟩, r1⟩
  · exact (implNorm_no P R C d D w hd h).mono fun e w' r => ⟨_, _, .inr ⟨h, rfl, rfl⟩, r⟩
theorem implFp_any (P R C : Int) (d : Value) (D : List Int) (w : World) (hd : Ints w d D) :
    Calls Try.prog 16 #[.agg #[.int .i64 P, .int .i64 R, .int .i64 C, d]] w (RetI w (Classical.epsilon (LsQ (FpIs P R C D)))) := by
  suffices hh : Calls Try.prog 16 #[.agg #[.int .i64 P, .int .i64 R, .int .i64 C, d]] w fun e w' => ∃ l, FpIs P R C D l ∧ RetI w l e w' from
    hh.mono fun e w' ⟨l, h1, h2⟩ => LsQ.eps FpIs.one h1 ▸ h2
  rcases Classical.em (IsFl P R C D) with h | h
  · obtain ⟨n, rfl, rfl, hn0, hn, hlD, hD, hP2, hP7, hpr, hrk⟩ := h.facts
    exact (implFp_yes P n d D w hd h hlD (fun t => getD_range hD (by omega) t) hpr hn0 hn hrk).mono fun e w' ⟨l, r1, X, q, r2, r3⟩ => ⟨l, .inl ⟨h, X, q, r2, r3⟩, r1⟩
  · exact (implFp_no P R C d D w hd h).mono fun e w' r => ⟨_, .inr ⟨h, rfl⟩, r⟩

end Go.Proofs.Ytoodgbflaaabmaa

namespace Go.Proofs.Ytoodgbflaaabmaa
set_option linter.all false
open Go.RowKit

theorem cm_same {P : Int} {n : Nat} {A X : Nat → Nat → Int} (hr : ∀ m, m ≤ n → HasRank P n m A m) (hs : ∀ i, i ≤ n → SameSp P n i A i X) {i j : Nat} (hi : i ≤ n) (hj : j ≤ n) : CmIs P n A i X j ((if i ≤ j then i else j : Nat) : Int) := by
  have h : HasRank P n (i + j) (stackM i A X) (if i ≤ j then j else i) := by
    refine (hr _ (by split <;> omega)).same ⟨fun t ht => ?_, fun t ht => ?_⟩
    · by_cases e : t < i
      · rw [stackM_lt e]; exact Sp.row (by split <;> omega)
      · rw [stackM_ge e]
        exact ((hs j hj).2 (t - i) (by omega)).mono (by split <;> omega)
    · by_cases e : i ≤ j
      · rw [if_pos e] at ht
        refine ((hs j hj).1 t ht).trans fun l hl => ?_
        have := Sp.row (p := P) (C := n) (M := stackM i A X) (n := i + j) (i := i + l) (by omega)
        rwa [stackM_ge (by omega), show i + l - i = l from by omega] at this
      · rw [if_neg e] at ht
        have := Sp.row (p := P) (C := n) (M := stackM i A X) (n := i + j) (i := t) (by omega)
        rwa [stackM_lt ht] at this
  refine ⟨_, h, ?_⟩
  split <;> omega
theorem rp_same {P : Int} {n : Nat} {A X : Nat → Nat → Int} (hP : 2 ≤ P) (hr : ∀ m, m ≤ n → HasRank P n m A m) (hs : ∀ i, i ≤ n → SameSp P n i A i X) {i : Nat} (hi : i < n) : RpAt P n A X i (i : Int) := by
  refine ⟨i, rfl, hi, ⟨_, _, cm_same hr hs (i := i + 1) (j := i + 1) (by omega) (by omega), cm_same hr hs (i := i) (j := i + 1) (by omega) (by omega), ?_⟩, fun k hk a b ha hb => ?_⟩
  · rw [if_pos (Nat.le_refl _), if_pos (by omega)]; omega
  · rw [ha.one hP (cm_same hr hs (i := i + 1) (j := k + 1) (by omega) (by omega)), hb.one hP (cm_same hr hs (i := i) (j := k + 1) (by omega) (by omega)), if_neg (by omega)]
    by_cases e : i ≤ k + 1
    · rw [if_pos e]; omega
    · rw [if_neg e]

/-- the position of two flags with the same members -/
theorem RpIs.same {P : Int} {n : Nat} {D D' : List Int} {l : List Int} (h : IsFl P n n D) (h' : IsFl P n n D') (hs : ∀ i, i ≤ n → SameSp P n i (mf n fun t => D.getD t 0) i (mf n fun t => D'.getD t 0)) (hl : RpIs P n n D P n n D' l) : l = (List.range n).map fun k : Nat => (k : Int) := by
  rcases hl with ⟨_, h1, h2⟩ | ⟨t, _⟩
  · obtain ⟨m, _, e, _, _, hlD, hD, hP, _, hp, hrk⟩ := h.facts
    obtain rfl := Int.ofNat.inj e
    have hrg : ∀ t, 0 ≤ D.getD t 0 ∧ D.getD t 0 < P := fun t => getD_range hD (by omega) t
    have hr : ∀ k, k ≤ n → HasRank P n k (mf n fun t => D.getD t 0) k := fun k hk => hrk.part hp (fun i j _ _ => hrg _) hk
    rw [Int.toNat_natCast] at h1 h2
    refine getD_eq_list (by simp [h1]) fun j hj => ?_
    rw [h1] at hj
    rw [(h2 j (by omega)).one (rp_same hP hr hs hj)]
    simp [List.getD_eq_getElem?_getD, hj]
  · exact absurd ⟨h, h', rfl, rfl⟩ t

/-- a flag's normal form, and the flag's permutation -/
structure NfOf (P : Int) (n : Nat) (D : List Int) (X : Nat → Nat → Int) (q : Nat → Nat) : Prop where
  up : NfUp P n (mf n fun t => D.getD t 0) X q n
theorem NfIs.of {P : Int} {n : Nat} {D : List Int} {m : Mx} {ok : Bool} (hf : IsFl P n n D) (h : NfIs P n n D m ok) : ok = true ∧ ∃ X q, NfOf P n D X q ∧ m = ⟨P, n, n, flatM n n X⟩ := by
  rcases h with ⟨_, e, X, q, h1, h2⟩ | ⟨t, _⟩
  · exact ⟨e, X, q, ⟨by simpa using h1⟩, by simpa using h2⟩
  · exact absurd hf t
theorem FpIs.of {P : Int} {n : Nat} {D : List Int} {l : List Int} (hf : IsFl P n n D) (h : FpIs P n n D l) : ∃ X q, NfOf P n D X q ∧ l = (List.range n).map fun k => (q k : Int) := by
  rcases h with ⟨_, X, q, h1, h2⟩ | ⟨t, _⟩
  · exact ⟨X, q, ⟨by simpa using h1⟩, by simpa using h2⟩
  · exact absurd hf t
theorem NfOf.same {P : Int} {n : Nat} {D : List Int} {X : Nat → Nat → Int} {q : Nat → Nat} (hP : 2 ≤ P) (h : NfOf P n D X q) : ∀ i, i ≤ n → SameSp P n i (mf n fun t => D.getD t 0) i (mf n fun t => (flatM n n X).getD t 0) := fun i hi =>
  (NfUp.same hP i (fun k hk => h.up k (by omega))).trans (SameSp.of_eqv fun k hk => .of_eq fun j hj => (mf_flatM (by omega) hj).symm)
theorem NfOf.rng {P : Int} {n : Nat} {D : List Int} {X : Nat → Nat → Int} {q : Nat → Nat} (hP : 2 ≤ P) (h : NfOf P n D X q) : ∀ x ∈ flatM n n X, 0 ≤ x ∧ x < P := by
  intro x hx
  unfold flatM at hx
  obtain ⟨t, ht, rfl⟩ := List.mem_map.1 hx
  have h1 := List.mem_range.1 ht
  have hn : 0 < n := by rcases Nat.eq_zero_or_pos n with e | e; (subst e; omega); exact e
  exact h.up.rng hP _ _ (Nat.div_lt_of_lt_mul h1) (Nat.mod_lt _ hn)
/-- a normal form is a flag -/
theorem NfOf.fl {P : Int} {n : Nat} {D : List Int} {X : Nat → Nat → Int} {q : Nat → Nat} (hf : IsFl P n n D) (h : NfOf P n D X q) : IsFl P n n (flatM n n X) := by
  obtain ⟨m, _, e, hn0, hn7, hlD, hD, hP, _, hp, hrk⟩ := hf.facts
  obtain rfl := Int.ofNat.inj e
  refine isFl_of hp hn0 hn7 (by simp [flatM]) (h.rng hP) ?_
  exact (hrk.same (h.same hP n (Nat.le_refl _)).symm).indep hp (fun i j hi hj => by rw [mf_flatM hi hj]; exact h.up.rng hP i j hi hj)

end Go.Proofs.Ytoodgbflaaabmaa

namespace Go.Proofs.Ytoodgbflaaabmaa
set_option linter.all false
open Go.RowKit

theorem blk3 {w : World} {b : Nat} {x0 x1 x2 : Value} {T : TypeId} (h : w.heap[b]? = some (.cells #[x0, x1, x2] T (0, 0))) :
    w.cell? ⟨b, 0, none⟩ = some x0 ∧ w.cell? ⟨b, 1, none⟩ = some x1 ∧ w.cell? ⟨b, 2, none⟩ = some x2 ∧ (∀ j, w.frozen? ⟨b, j, none⟩ = false) ∧ b < w.heap.size :=
  ⟨cell_of_blk h rfl, cell_of_blk h rfl, cell_of_blk h rfl, free_of_blk h, (Array.getElem?_eq_some_iff.1 h).1⟩

theorem and255 (x : Int) : 0 ≤ bits .and .i64 x 255 ∧ bits .and .i64 x 255 ≤ 255 := by
  have h1 : (BitVec.ofInt 64 x).toNat &&& 255 < 2 ^ 8 := Nat.and_lt_two_pow _ (by decide)
  have e : bits .and .i64 x 255 = IntKind.i64.wrap (((BitVec.ofInt 64 x).toNat &&& 255 : Nat) : Int) := by
    simp only [bits, BitVec.toNat_and]
    rfl
  have e2 : IntKind.i64.wrap (((BitVec.ofInt 64 x).toNat &&& 255 : Nat) : Int) = (((BitVec.ofInt 64 x).toNat &&& 255 : Nat) : Int) := k64 (by omega) (by omega)
  rw [e, e2]
  omega

/-- bytes that can be read -/
def Byts (w : World) (v : Value) (n : Nat) : Prop := ∃ f : Nat → Int, Rd w v n fun j => .int .u8 (f j)
theorem Byts.below {w w' : World} {v : Value} {n : Nat} (h : Byts w v n) (hb : Below w.heap.size w w') : Byts w' v n := by
  obtain ⟨f, h⟩ := h
  exact ⟨f, h.below hb⟩

theorem Byts.frm {w w' : World} {p : Option Addr} {n cap k : Nat} (h : Byts w (.slice p n cap) n) (hf : Frm k (k + 1) w w') (hne : 0 < n → ∀ a, p = some a → a.block < k) : Byts w' (.slice p n cap) n := by
  obtain ⟨f, p', cap', e, hm, hx⟩ := h
  injection e with e1 _ e3
  subst e1 e3
  refine ⟨f, p, cap, rfl, hm, fun h0 => ?_⟩
  obtain ⟨b, off, hp, hc⟩ := hx h0
  refine ⟨b, off, hp, fun j hj => ?_⟩
  have hb := World.block_lt_of_cell? w _ (hc j hj)
  have h1 := hne h0 _ hp
  rw [World.cell?_of_block (w := w) (hf.block b hb (by dsimp only at h1; omega))]
  exact hc j hj

/-- the cursor in block k -/
def Cur (w : World) (k : Nat) : Prop :=
  ∃ (p : Option Addr) (n cap i : Nat) (h : Int), w.heap[k]? = some (.cells #[.slice p n cap, .int .i64 (i : Int), .int .i64 h] 78 (0, 0)) ∧ i ≤ n ∧ Byts w (.slice p n cap) n ∧ (0 < n → ∀ a, p = some a → a.block < k)
theorem Cur.lt {w : World} {k : Nat} (h : Cur w k) : k < w.heap.size := by
  obtain ⟨_, _, _, _, _, h, _⟩ := h
  exact blk_lt h
theorem Cur.keepB {w w' : World} {k B : Nat} (h : Cur w k) (hb : Below B w w') (hB : k < B) : Cur w' k := by
  have hk := h.lt
  obtain ⟨p, n, cap, i, x, h1, h2, ⟨f, p', cap', e, hm, h3⟩, h4⟩ := h
  injection e with e1 _ e3
  subst e1 e3
  refine ⟨p, n, cap, i, x, by rw [hb.block k hB]; exact h1, h2, ⟨f, p, cap, rfl, hm, fun h0 => ?_⟩, h4⟩
  obtain ⟨b, off, hp, hc⟩ := h3 h0
  have hlt := h4 h0 _ hp
  dsimp only at hlt
  exact ⟨b, off, hp, fun j hj => by rw [World.cell?_of_block (w := w) (hb.block b (by omega))]; exact hc j hj⟩
theorem Frm.thenB {lo hi B : Nat} {a b c : World} (h : Frm lo hi a b) (hb : Below B b c) (hB : a.heap.size ≤ B) : Frm lo hi a c :=
  ⟨hb.os.trans h.os, hb.tape.trans h.tape, hb.output.trans h.output, Nat.le_trans h.size hb.size, fun k hk ho => (hb.block k (by omega)).trans (h.block k hk ho)⟩
theorem OwnI.setOther {T : TypeId} {w : World} {lo hi : Nat} {v : Value} {xs : List Int} (h : OwnI T w lo hi v xs) {a : Addr} (hne : v.ownBlock ≠ some a.block) (u : Value) : OwnI T (w.setCell a u) lo hi v xs :=
  ⟨ownsRow_of_block h.1 fun b hb => Below.heap_setCell _ _ _ _ fun e => hne (by rw [hb, e]), h.2⟩
theorem Cur.below {w w' : World} {k : Nat} (h : Cur w k) (hb : Below w.heap.size w w') : Cur w' k := by
  obtain ⟨p, n, cap, i, x, h1, h2, h3, h4⟩ := h
  exact ⟨p, n, cap, i, x, blk_later h1 hb, h2, h3.below hb, h4⟩

set_option maxRecDepth 100000 in
set_option maxHeartbeats 2000000 in
theorem l1Byte_any (k : Nat) (w : World) (h : Cur w k) :
    Calls Try.prog 65 #[.pointer (some ⟨k, 0, none⟩)] w fun e w' => ∃ x : Int, e = .returned (.int .i64 x) ∧ 0 ≤ x ∧ x ≤ 255 ∧ Cur w' k ∧ Frm k (k + 1) w w' := by
  obtain ⟨p, n, cap, i, x, h1, h2, ⟨f, h3⟩, h4⟩ := h
  obtain ⟨c0, c1, c2, cf, cz⟩ := blk3 h1
  obtain ⟨_, _, e, ⟨hx1, hx2⟩, hxc⟩ := h3
  injection e with e1 e2 e3
  subst e1 e3
  unfold maxLen at hx2
  have Hxc := Lib.hid hxc
  clear hxc e2
  go_enter Try.func65, Try.ntmps65
  go_wp2_with fail
  go_quiet (fail)
  obtain ⟨X, hX⟩ : ∃ X, X = wrap64 (wrap64 (x * 6364136223846793005) + 1442695040888963407) := ⟨_, rfl⟩
  rw [← hX]
  obtain ⟨Y, hY⟩ : ∃ Y, Y = bits BinOp.and IntKind.i64 (bits BinOp.xor IntKind.i64 (X / 8589934592) (X / 35184372088832)) 255 := ⟨_, rfl⟩
  rw [← hY]
  have hY2 := and255 (bits BinOp.xor IntKind.i64 (X / 8589934592) (X / 35184372088832))
  rw [← hY] at hY2
  clear hX hY
  have hf2 : Frm k (k + 1) w ((w.setCell ⟨k, 2, none⟩ (.int .i64 X)).drewN nq) := ((Frm.refl k (k + 1) w).setCell (Nat.le_refl _) (Nat.lt_succ_self _) _).drewN nq
  have hh2 : ((w.setCell ⟨k, 2, none⟩ (.int .i64 X)).drewN nq).heap[k]? = some (.cells #[.slice p n cap, .int .i64 (i : Int), .int .i64 X] 78 (0, 0)) := heap_setCell_at h1 2 _
  have hB2 : Byts ((w.setCell ⟨k, 2, none⟩ (.int .i64 X)).drewN nq) (.slice p n cap) n := Byts.frm ⟨f, _, _, rfl, ⟨hx1, by unfold maxLen; omega⟩, Hxc.out⟩ hf2 h4
  generalize (w.setCell ⟨k, 2, none⟩ (.int .i64 X)).drewN nq = w2 at *
  clear c0 c1 c2 cf cz Hxc f
  obtain ⟨c0, c1, c2, cf, cz⟩ := blk3 hh2
  have HB2 := Lib.hid hB2
  have Hf2 := Lib.hid hf2
  obtain ⟨f, p', cap', e, _, hxc⟩ := hB2
  injection e with e1 _ e3
  subst e1 e3
  clear hf2
  by_cases hlt : i < n
  · obtain ⟨b, off, rfl, hc⟩ := hxc (by omega)
    have cb := hc i hlt
    have hlt2 : (i : Int) < (n : Int) := by omega
    clear hxc hc
    go_wp2_with fail
    go_quiet (fail)
    go_wp2_with fail
    go_quiet (fail)
    obtain ⟨Z, hZ⟩ : ∃ Z, Z = bits BinOp.and IntKind.i64 (wrap64 (Y + wrap64 (f i))) 255 := ⟨_, rfl⟩
    rw [← hZ]
    have hZ2 := and255 (wrap64 (Y + wrap64 (f i)))
    rw [← hZ] at hZ2
    clear hZ
    have hcast : (i : Int) + 1 = ((i + 1 : Nat) : Int) := by omega
    have Hcast := Lib.hid hcast
    clear hcast
    go_wp2_with fail
    go_ret
    rw [Hcast.out]
    refine ⟨Z, rfl, hZ2.1, hZ2.2, ⟨_, n, cap, i + 1, X, by exact heap_setCell_at hh2 1 _, by omega, ?_, h4⟩, ?_⟩
    · exact HB2.out.frm (k := k) (Frm.setCell ((Frm.refl k (k + 1) w2).drewN _) (Nat.le_refl k) (Nat.lt_succ_self k) _) h4
    · exact Frm.setCell (Hf2.out.drewN _) (Nat.le_refl k) (Nat.lt_succ_self k) _
  · have hlt2 : ¬ (i : Int) < (n : Int) := by omega
    clear hxc
    go_wp2_with fail
    go_quiet (fail)
    go_wp2_with fail
    go_ret
    exact ⟨Y, rfl, hY2.1, hY2.2, ⟨p, n, cap, i, X, hh2, h2, HB2.out.frm (k := k) ((Frm.refl k (k + 1) w2).drewN _) h4, h4⟩, Hf2.out.drewN _⟩

set_option maxRecDepth 100000 in
set_option maxHeartbeats 2000000 in
/-- a number from 0 to m - 1, where m is not great -/
theorem l1Below_any (k m : Nat) (w : World) (h : Cur w k) (h0 : 1 ≤ m) (hm : m ≤ 256) :
    Calls Try.prog 32 #[.pointer (some ⟨k, 0, none⟩), .int .i64 (m : Int)] w fun e w' => ∃ x : Nat, e = .returned (.int .i64 (x : Int)) ∧ x < m ∧ Cur w' k ∧ Frm k (k + 1) w w' := by
  have Hc := Lib.hid h
  clear h
  go_enter Try.func32, Try.ntmps32
  go_wp2_with fail
  refine (l1Byte_any k _ Hc.out).mono ?_
  rintro e w1 ⟨x, rfl, hx0, hx1, hc1, hf1⟩
  obtain ⟨X, rfl⟩ := Int.eq_ofNat_of_zero_le hx0
  have Hc1 := Lib.hid hc1
  have Hf1 := Lib.hid hf1
  clear hc1 hf1
  go_wp2_with fail
  go_ret
  exact ⟨X % m, ret_int (Int.natCast_emod X m).symm, Nat.mod_lt _ (by omega), Hc1.out, Hf1.out⟩

set_option maxRecDepth 100000 in
set_option maxHeartbeats 2000000 in
theorem l1Once_any (k m : Nat) (w : World) (h : Cur w k) (h0 : 1 ≤ m) (hm : m ≤ 256) :
    Calls Try.prog 46 #[.pointer (some ⟨k, 0, none⟩), .int .i64 (m : Int)] w fun e w' => ∃ b : Bool, e = .returned (.bool b) ∧ Cur w' k ∧ Frm k (k + 1) w w' := by
  have Hc := Lib.hid h
  clear h
  go_enter Try.func46, Try.ntmps46
  go_wp2_with fail
  refine (l1Below_any k m _ Hc.out h0 hm).mono ?_
  rintro e w1 ⟨x, rfl, hx, hc1, hf1⟩
  go_wp2_with fail
  go_ret
  exact ⟨_, rfl, hc1, hf1⟩

set_option maxRecDepth 100000 in
set_option maxHeartbeats 2000000 in
/-- one of some numbers -/
theorem l1PickInt_any (k : Nat) (v : Value) (xs : List Int) (w : World) (h : Cur w k) (hv : Ints w v xs) (hne : ∀ p n c, v = .slice p n c → ∀ a, p = some a → a.block ≠ k) (h0 : 1 ≤ xs.length) (hm : xs.length ≤ 256) :
    Calls Try.prog 82 #[.pointer (some ⟨k, 0, none⟩), v] w fun e w' => ∃ x ∈ xs, e = .returned (.int .i64 x) ∧ Cur w' k ∧ Frm k (k + 1) w w' := by
  have Hc := Lib.hid h
  clear h
  obtain ⟨p, cap, rfl, ⟨hx1, hx2⟩, hxc⟩ := hv
  obtain ⟨b, off, rfl, hc⟩ := hxc h0
  have hk : b ≠ k := hne _ _ _ rfl _ rfl
  unfold maxLen at hx2
  clear hne hxc
  go_enter Try.func82, Try.ntmps82
  go_wp2_with fail
  refine (l1Below_any k xs.length _ Hc.out h0 hm).mono ?_
  rintro e w1 ⟨x, rfl, hx, hc1, hf1⟩
  have c1 : w1.cell? ⟨b, off + x, none⟩ = some (.int .i64 xs[x]) := by
    rw [World.cell?_of_block (w := w) (hf1.block b (World.block_lt_of_cell? w _ (hc x hx)) (by omega)), hc x hx]
    simp [iv, List.getD_eq_getElem?_getD, hx]
  have Hc1 := Lib.hid hc1
  have Hf1 := Lib.hid hf1
  have Hm := Lib.hid (show xs[x] ∈ xs from List.getElem_mem hx)
  obtain ⟨X, hX⟩ : ∃ X, X = xs[x] := ⟨_, rfl⟩
  rw [← hX] at c1 Hm
  clear hX hc hc1 hf1
  go_wp2_with fail
  go_ret
  exact ⟨X, Hm.out, rfl, Hc1.out, Hf1.out⟩

end Go.Proofs.Ytoodgbflaaabmaa
