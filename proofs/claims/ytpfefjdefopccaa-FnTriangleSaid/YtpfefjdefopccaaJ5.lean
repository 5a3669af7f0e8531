/-
  impl.reduced, walked.
  The reference's product of matrices.
  The rank, on both sides.
-/
import Derived.Test.YtpfefjdefopccaaJ4
import Derived.Test.YtpfefjdefopccaaJ3
namespace Go.Proofs.Ytpfefjdefopccaa
set_option linter.all false
open Go.RowKit

theorem Red.piv {p : Int} {C : Nat} {out : List (List Int)} {q : Nat → Nat} (hr : Red p C out.length (mt out) q) (ho : RowsOk p C out) {i : Nat} (hi : i < out.length) : pivL (out.getD i []) = q i := by
  refine pivL_at (by rw [(ho i hi).1]; exact hr.lt i hi) ?_ fun j hj => hr.lead i j hi hj
  have := hr.unit i i hi hi
  rw [if_pos rfl] at this
  unfold mt at this
  rw [this]; decide
theorem OwnI.shapeC {T : TypeId} {w : World} {lo hi C : Nat} {v : Value} {xs : List Int} (h : OwnI T w lo hi v xs) (hl : xs.length = C) : ∃ p cap, v = .slice p C cap ∧ C ≤ cap ∧ cap ≤ maxLen := by
  subst hl; exact h.shape
theorem OwnI.shapeC' {T : TypeId} {w : World} {lo hi C : Nat} {v : Value} {xs : List Int} (h : OwnI T w lo hi v xs) (hl : xs.length = C) : ∃ p cap, v = .slice p C cap ∧ C ≤ cap ∧ cap ≤ maxLen := h.shapeC hl
theorem Ints.shapeC {w : World} {C : Nat} {v : Value} {xs : List Int} (h : Ints w v xs) (hl : xs.length = C) : ∃ p cap, v = .slice p C cap ∧ C ≤ cap ∧ cap ≤ maxLen := by
  subst hl
  obtain ⟨p, cap, e, ⟨h1, h2⟩, _⟩ := h
  exact ⟨p, cap, e, h1, h2⟩
theorem OwnF.cut {T : TypeId} {w : World} {lo hi C : Nat} {v : Value} {f : Nat → Value} {n : Nat} (h : OwnF w lo hi T v n f) (hl : n = C) : OwnF w lo hi T v C f := hl ▸ h

/-- one row of a list of lists has got other numbers -/
theorem rows_set {Ts Ti : TypeId} {w w' : World} {lo hi n i : Nat} {v : Value} {f : Nat → Value} {R : Nat → List Int} {new : List Int} (g1 : OwnF w lo hi Ts v n f) (g2 : ∀ j, j < n → OwnI Ti w lo hi (f j) (R j))
    (g3 : ∀ a b, a < b → b < n → ∀ k, (f a).ownBlock = some k → (f b).ownBlock ≠ some k) (hi' : i < n) (hg : w.grownBy w' (f i).ownBlock) (hT : Ts ≠ Ti) (hnew : OwnI Ti w' lo hi (f i) new) :
    OwnF w' lo hi Ts v n f ∧ ∀ j, j < n → OwnI Ti w' lo hi (f j) (if j = i then new else R j) := by
  refine ⟨g1.grown hg fun k hk e => own_types g1 (g2 i hi') hT hk e, fun j hj => ?_⟩
  by_cases e : j = i
  · subst e; rw [if_pos rfl]; exact hnew
  · rw [if_neg e]
    have hy := g2 j hj
    refine ⟨ownsRow_of_block hy.1 fun k hk => hg.block k (Own.block hy hk).2.2 fun e2 => ?_, hy.2⟩
    rcases Nat.lt_or_gt_of_ne e with h | h
    · exact g3 j i h hi' k hk e2.symm
    · exact g3 i j h hj k e2.symm hk

/-- the rows in the order of their columns -/
theorem red_sorted {p : Int} {C : Nat} {out : List (List Int)} {q τ : Nat → Nat} (hr : Red p C out.length (mt out) q) (ho : RowsOk p C out) (hτ : Sorted out τ) :
    RowsOk p C (reL out τ) ∧ Red p C (reL out τ).length (mt (reL out τ)) (fun i => q (τ i)) ∧ (∀ i k, i < k → k < (reL out τ).length → q (τ i) < q (τ k)) ∧ SameSp p C out.length (mt out) (reL out τ).length (mt (reL out τ)) := by
  obtain ⟨h1, h2, h3, h4⟩ := hτ
  have hm : ∀ i, i < out.length → mt (reL out τ) i = mt out (τ i) := fun i hi => by
    funext j
    unfold mt
    rw [reL_getD hi]
  have hinj : ∀ i k, i < out.length → k < out.length → q i = q k → i = k := fun i k hi hk e => by
    have a := hr.unit i k hi hk
    rw [← e, hr.unit i i hi hi, if_pos rfl] at a
    by_cases e2 : i = k
    · exact e2
    · rw [if_neg e2] at a; cases a
  rw [reL_length]
  refine ⟨fun i hi => ?_, ⟨fun i hi => hr.lt _ (h1 i hi), fun i k hi hk => ?_, fun i j hi hj => ?_⟩, fun i k hik hk => ?_, ?_⟩
  · rw [reL_length] at hi
    rw [reL_getD hi]; exact ho _ (h1 i hi)
  · rw [hm i hi, hr.unit _ _ (h1 i hi) (h1 k hk)]
    by_cases e : i = k
    · subst e; simp
    · rw [if_neg e, if_neg fun e2 => e (h2 i k hi hk e2)]
  · rw [hm i hi]; exact hr.lead _ j (h1 i hi) hj
  · have a := h4 i k hik hk
    rw [hr.piv ho (h1 i (by omega)), hr.piv ho (h1 k hk)] at a
    have b : q (τ i) ≠ q (τ k) := fun e => by
      have := h2 i k (by omega) hk (hinj _ _ (h1 i (by omega)) (h1 k hk) e)
      omega
    omega
  · refine SameSp.perm (fun j => if h : j < out.length then (h3 j h).choose else 0) τ (fun j hj => ?_) fun i hi => ⟨h1 i hi, by rw [hm i hi]; exact .refl _ _ _⟩
    simp only [hj, dif_pos]
    obtain ⟨a, b⟩ := (h3 j hj).choose_spec
    exact ⟨a, by rw [hm _ a, b]; exact .refl _ _ _⟩

/-- what impl.reduced returns: the reduced form of what the rows span -/
def RetRed (w : World) (p : Int) (C : Nat) (src : List (List Int)) (e : Ending) (w' : World) : Prop :=
  ∃ (u : Value) (L : List (List Int)) (q : Nat → Nat), e = .returned u ∧ OwnII 24 3 w' w.heap.size w'.heap.size u L ∧ Below w.heap.size w w' ∧ RowsOk p C L ∧ Red p C L.length (mt L) q ∧
    (∀ i k, i < k → k < L.length → q i < q k) ∧ SameSp p C src.length (mt src) L.length (mt L) ∧ L.length ≤ src.length

set_option maxRecDepth 100000 in
set_option maxHeartbeats 4000000 in
theorem reduced_any (v : Value) (rows : List (List Int)) (C : Nat) (p : Int) (w : World) (h : RdII w v rows) (hok : RowsOk p C rows) (hp : primeOk p = true) (hn : rows.length ≤ 100) (hC : C ≤ 100) :
    Calls Try.prog 39 #[v, .int .i64 p] w (RetRed w p C rows) := by
  obtain ⟨f, ⟨p0, cap, rfl, ⟨hx1, hx⟩, hxc⟩, hf⟩ := h
  unfold maxLen at hx
  obtain ⟨hp2, hp7⟩ := primeOk_range hp
  have Hf := Lib.hid hf
  have Hok := Lib.hid hok
  have Hp := Lib.hid hp
  clear hf hok hp
  go_enter Try.func39, Try.ntmps39
  go_wp2_with fail
  go_loopg [5, 17] rows.length (fun g s5 i wr => ∃ (k : Nat) (out : List (List Int)) (q : Nat → Nat), k ≤ rows.length ∧ g = rows.length - k ∧ i = .int .i64 k ∧ Below w.heap.size w wr ∧ out.length ≤ k ∧
    Hid (RowsOk p C out) ∧ Hid (Red p C out.length (mt out) q) ∧ Hid (SameSp p C k (mt rows) out.length (mt out)) ∧ Hid (OwnII 24 3 wr w.heap.size wr.heap.size s5 out))
  case atStart =>
    refine ⟨0, [], fun _ => 0, Nat.zero_le _, rfl, rfl, below_alloc _ _, Nat.le_refl _, fun i hi => absurd hi (by simp), ⟨fun i hi => absurd hi (by simp), fun i k hi => absurd hi (by simp), fun i j hi => absurd hi (by simp)⟩,
      ⟨fun i hi => absurd hi (Nat.not_lt_zero _), fun i hi => absurd hi (by simp)⟩, ⟨fun _ => undef, (OwnF.made0 w _ _).mono (Nat.le_refl _) (by simp), fun i hi => absurd hi (by simp), fun i j _ hj => absurd hj (by simp)⟩⟩
  case round =>
    obtain ⟨k, out, q, hk, rfl, rfl, hb, hnk, hro, hrd, hss, ho⟩ := hrel
    obtain ⟨wo, rfl⟩ : ∃ x : World, x = wr := ⟨_, rfl⟩
    obtain ⟨F, g1, g2, g3⟩ := ho.out
    obtain ⟨p5, k5, rfl, hn5, hk5, _⟩ := g1.shape
    unfold maxLen at hk5
    by_cases hlt : k < rows.length
    · obtain ⟨b, off, rfl, hc⟩ := hxc (by omega)
      have c1 := cell_below hb (hc k hlt)
      have hrk := Hok.out k hlt
      have I1 := Lib.hid ((Hf.out k hlt).below hb)
      obtain ⟨p1, k1, e1, hn1, hk1⟩ := (Hf.out k hlt).shapeC hrk.1
      unfold maxLen at hk1
      obtain ⟨r, hr⟩ : ∃ r, r = rows.getD k [] := ⟨_, rfl⟩
      rw [← hr] at hrk I1
      have Hrk := Lib.hid hrk
      have Hr := Lib.hid hr
      rw [e1] at c1 I1
      have G1 := Lib.hid g1
      have G2 := Lib.hid g2
      have G3 := Lib.hid g3
      have hrl := hrk.1
      have Hb := Lib.hid hb
      clear hc e1 hr hrk ho g1 g2 g3
      go_wp2_with fail
      refine (clone_any _ r _ I1.out (by omega)).mono ?_
      rintro e wc ⟨u, rfl, ho2, hb2⟩
      have hs2 := hb2.size
      obtain ⟨p2, k2, rfl, hn2, hk2⟩ := ho2.shapeC hrl
      unfold maxLen at hk2
      have Ho2 := Lib.hid ho2
      have Hb2 := Lib.hid hb2
      have Hrl := Lib.hid hrl
      clear ho2 hb2 hrl c1
      go_wp2_with fail
      go_loopg [10, 25] out.length (fun g s10 i wx => ∃ (t : Nat) (cur : List Int), t ≤ out.length ∧ g = out.length - t ∧ i = .int .i64 t ∧ Hid (Below wo.heap.size wo wx) ∧ wc.heap.size ≤ wx.heap.size ∧
        Hid (OwnI 3 wx wo.heap.size wc.heap.size (.slice p2 C k2) cur) ∧ Hid (El p C out q r cur t))
      case atStart => exact ⟨0, r, Nat.zero_le _, rfl, rfl, Hb2.out, Nat.le_refl _, Ho2.out, El.start Hrk.out⟩
      case round =>
        obtain ⟨t, cur, ht, rfl, rfl, hbx, hsx, hox, hel⟩ := hrel
        by_cases htl : t < out.length
        · obtain ⟨wx, rfl⟩ : ∃ x : World, x = wr := ⟨_, rfl⟩
          obtain ⟨g5, rfl, _, _, _⟩ := G1.out.at_ (by omega)
          have c5 := (G1.out.below hbx.out).cell htl
          have hrt := hro.out t htl
          have hIt := (G2.out t htl).below hbx.out
          obtain ⟨pt, kt, et, hnt, hkt⟩ := hIt.shapeC' hrt.1
          unfold maxLen at hkt
          rw [et] at c5 hIt
          have hqt := hrd.out.lt t htl
          have hpv := pivot_any _ _ wx hIt.ints
          rw [hrd.out.piv hro.out htl] at hpv
          have hcl := hel.out.ok.1
          have hox1 := hox.out.fn.cut hcl
          obtain ⟨g2, rfl, hg2a, hg2b, hg2c⟩ := hox1.at_ (by omega)
          have c2 := hox1.cell hqt
          obtain ⟨y, hy⟩ : ∃ y, y = cur.getD (q t) 0 := ⟨_, rfl⟩
          have hyr := hel.out.ok.2 (q t)
          rw [← hy] at hyr
          unfold iv at c2
          rw [← hy] at c2
          have hne : ∀ b, (Value.slice (some ⟨g2, 0, none⟩) C k2).ownBlock = some b → (Value.slice pt C kt).ownBlock ≠ some b := fun b hb e => by
            have h1 := Own.block hIt e
            have h2 := Own.block hox.out hb
            have h3 := h1.2.1
            have h4 := h2.1
            omega
          obtain ⟨Q, hQ⟩ : ∃ Q, Q = q t := ⟨_, rfl⟩
          rw [← hQ] at hqt hpv c2
          have Hst := Lib.hid (hel.out.step hp2 hrd.out htl)
          have Hpv := Lib.hid hpv
          have C2 := Lib.hid c2
          have HIt := Lib.hid hIt
          have Hox := Lib.hid hox.out
          have Hcur := Lib.hid hel.out.ok
          have Hrt := Lib.hid hrt
          have Hne := Lib.hid hne
          have Hy := Lib.hid hy
          have HQ := Lib.hid hQ
          clear hpv c2 hIt hox hox1 hel hrt hne hy et hQ
          go_wp2_with fail
          refine Hpv.out.mono ?_
          rintro e wy ⟨rfl, hq⟩
          have c2 := hq.cell C2.out
          have Hq := Lib.hid hq
          clear hq
          go_wp2_with fail
          refine (addRow_any _ _ cur (out.getD t []) (p - y) p wo.heap.size wc.heap.size _ (Hox.out.below (Hq.out.below _)) (HIt.out.ints.qt Hq.out) Hne.out (by rw [hcl, Hrt.out.1]; exact Nat.le_refl _) (Hcur.out.small hp7) (Hrt.out.small hp7) (by omega) (by omega)).mono ?_
          rintro e wz ⟨rfl, hoz, hgz⟩
          have Hoz := Lib.hid hoz
          have Hgz := Lib.hid (grown_qt Hq.out hgz)
          clear hoz hgz c2 c5
          go_wp2_with fail
          go_roundg (out.length - (t + 1))
          case measure => omega
          case rel =>
            have hst := Hst.out
            rw [← Hy.out] at hst
            have hsz := Hgz.out.size
            refine ⟨t + 1, _, by omega, rfl, by go_num, hbx.out.trans (grownBy_below Hgz.out Hox.out.fn.blocks (Nat.le_refl _) hbx.out.size), by omega, Hoz.out, hst⟩
        · obtain rfl : t = out.length := by omega
          have hcl := hel.out.ok.1
          have hpv := pivot_any _ _ wr hox.out.ints
          rcases pivL_cases cur with ⟨hp1, h0⟩ | ⟨K, hp1, hK, hKn, hK0⟩
          · rw [hp1] at hpv
            have Hpv := Lib.hid hpv
            have Hnew := Lib.hid (hel.out.none h0)
            clear hpv h0 hel
            go_wp2_with fail
            refine Hpv.out.mono ?_
            rintro e wy ⟨rfl, hq⟩
            have Hq := Lib.hid hq
            clear hq
            go_wp2_with fail
            go_roundg (rows.length - (k + 1))
            case measure => omega
            case rel =>
              have hbw : Below wo.heap.size wo wy := hbx.out.trans (Hq.out.below _)
              have hsz := hbw.size
              have hsb := Hb.out.size
              refine ⟨k + 1, out, q, by omega, rfl, by go_num, Hb.out.trans (hbw.mono hsb), by omega, hro.out, hrd.out, ?_, ?_⟩
              · refine (SameSp.snoc (M'' := mt (out ++ [r])) hss.out ?_ fun i hi => by rw [mt_snoc_lt hi]; exact .refl _ _ _).trans Hnew.out
                rw [mt_snoc_at, Hr.out]; exact .refl _ _ _
              · exact OwnII.mono (OwnII.below ⟨F, G1.out, G2.out, G3.out⟩ hbw) (Nat.le_refl _) hsz
          · rw [hp1] at hpv
            have Hpv := Lib.hid hpv
            have Hel := Lib.hid hel.out
            have Hox := Lib.hid hox.out
            have HKn := Lib.hid hKn
            have HK0 := Lib.hid hK0
            have Hp1 := Lib.hid hp1
            have hKC : K < C := by omega
            clear hpv hel hox hKn hK0 hp1
            go_wp2_with fail
            refine Hpv.out.mono ?_
            rintro e wy ⟨rfl, hq⟩
            have Hq := Lib.hid hq
            clear hq
            go_wp2_with fail
            refine (scaledTo1_any _ cur p K wo.heap.size wc.heap.size _ (Hox.out.below (Hq.out.below _)) Hel.out.ok.2 Hp.out Hp1.out hK HKn.out).mono ?_
            rintro e wz ⟨k0, rfl, hka, hkb, hkc, hoz, hgz⟩
            have hmore := Hel.out.more hp2 hrd.out hro.out hKC HK0.out HKn.out hkc
            have hsl : (scaleL p k0 cur).length = C := by rw [scaleL_length]; exact hcl
            have hs1 : pivL (scaleL p k0 cur) = K := pivL_at (by omega) (by rw [scaleL_getD hK, hkc]; decide) fun j hj => by rw [scaleL_getD (by omega), HK0.out j hj, Int.mul_zero]; rfl
            have hsok : RowOk p C (scaleL p k0 cur) := scaleL_ok hp2 hcl
            generalize scaleL p k0 cur = s at *
            have hbz : Below wo.heap.size wo wz := hbx.out.trans ((Hq.out.below _).trans (by have := Hq.out.size; have := hbx.out.size; exact grownBy_below hgz (fun b hb => ⟨(Own.block hoz hb).1, (Own.block hoz hb).2.1⟩) (Nat.le_refl _) (by omega)))
            have hpz := pivot_any _ _ wz hoz.ints
            rw [hs1] at hpz
            have Hpz := Lib.hid hpz
            have Hmore := Lib.hid hmore
            have Hoz := Lib.hid hoz
            have Hbz := Lib.hid hbz
            have Hsok := Lib.hid hsok
            have hsz := hbz.size
            have hcz : wc.heap.size ≤ wz.heap.size := by have := hgz.size; have := Hq.out.size; omega
            clear hpz hmore hoz hbz hgz hkc hs1 hsok
            go_wp2_with fail
            refine Hpz.out.mono ?_
            rintro e ws ⟨rfl, hq⟩
            have hqs := hq.size
            have Hq2 := Lib.hid hq
            clear hq
            go_wp2_with fail
            have hbs : Below wo.heap.size wo ws := Hbz.out.trans (Hq2.out.below _)
            have Hbs := Lib.hid hbs
            have Hos := Lib.hid (Hoz.out.below (Hq2.out.below _))
            clear hbs
            go_loopg [13, 51] out.length (fun g s13 i wx => ∃ t : Nat, t ≤ out.length ∧ g = out.length - t ∧ i = .int .i64 t ∧ Hid (Frm w.heap.size wo.heap.size ws wx) ∧
              Hid (OwnF wx w.heap.size wo.heap.size 24 (.slice p5 out.length k5) out.length F ∧ ∀ i, i < out.length → OwnI 3 wx w.heap.size wo.heap.size (F i) ((clearL p K out s t).getD i [])))
            case atStart => exact ⟨0, Nat.zero_le _, rfl, rfl, Frm.refl _ _ _, G1.out.below Hbs.out, fun i hi => by rw [clearL_zero]; exact (G2.out i hi).below Hbs.out⟩
            case round =>
              obtain ⟨t, ht, rfl, rfl, hfx, hgx⟩ := hrel
              by_cases htl : t < out.length
              · obtain ⟨wx, rfl⟩ : ∃ x : World, x = wr := ⟨_, rfl⟩
                obtain ⟨g5, rfl, _, _, _⟩ := hgx.out.1.at_ (by omega)
                have c5 := hgx.out.1.cell htl
                have hIt := hgx.out.2 t htl
                rw [clearL_getD htl, if_neg (Nat.lt_irrefl t)] at hIt
                have hrt := hro.out t htl
                obtain ⟨pt, kt, et, hnt, hkt⟩ := hIt.shapeC hrt.1
                unfold maxLen at hkt
                rw [et] at c5 hIt
                have hIt1 := hIt.fn.cut hrt.1
                obtain ⟨gt, rfl, _, _, _⟩ := hIt1.at_ (by omega)
                have c2 := hIt1.cell hKC
                obtain ⟨y, hy⟩ : ∃ y, y = (out.getD t []).getD K 0 := ⟨_, rfl⟩
                have hyr := hrt.2 K
                unfold iv at c2
                rw [← hy] at hyr c2
                have hos := Hos.out.frm hfx.out (.inr (Nat.le_refl _))
                have hne : ∀ b, (Value.slice (some ⟨gt, 0, none⟩) C kt).ownBlock = some b → (Value.slice p2 C k2).ownBlock ≠ some b := fun b hb e => by
                  have h1 := Own.block hIt hb
                  have h2 := Own.block hos e
                  have h3 := h1.2.1
                  have h4 := h2.1
                  omega
                have HIt := Lib.hid hIt
                have Hosx := Lib.hid hos
                have Hrt := Lib.hid hrt
                have Hne := Lib.hid hne
                have Hy := Lib.hid hy
                have Het := Lib.hid et
                clear hIt hIt1 hos hrt hne hy et
                go_wp2_with fail
                refine (addRow_any _ _ (out.getD t []) s (p - y) p w.heap.size wo.heap.size _ HIt.out Hosx.out.ints Hne.out (by rw [hsl, Hrt.out.1]; exact Nat.le_refl _) (Hrt.out.small hp7) (Hsok.out.small hp7) (by omega) (by omega)).mono ?_
                rintro e wz2 ⟨rfl, hoz, hgz⟩
                have Hoz2 := Lib.hid hoz
                have Hgz := Lib.hid hgz
                clear hoz hgz c2 c5
                go_wp2_with fail
                go_roundg (out.length - (t + 1))
                case measure => omega
                case rel =>
                  refine ⟨t + 1, by omega, rfl, by go_num, hfx.out.trans (grownBy_frm Hgz.out fun b hb => ⟨(Own.block HIt.out hb).1, (Own.block HIt.out hb).2.1⟩), ?_⟩
                  have hset := rows_set (R := fun i => (clearL p K out s t).getD i []) hgx.out.1 hgx.out.2 G3.out htl (by rw [Het.out]; exact Hgz.out) (by decide) (by rw [Het.out]; exact Hoz2.out)
                  refine ⟨hset.1, fun i hi => ?_⟩
                  have := hset.2 i hi
                  rw [clearL_getD hi]
                  by_cases e : i = t
                  · subst e
                    rw [if_pos rfl] at this
                    rw [if_pos (by omega), ← Hy.out]
                    exact this
                  · rw [if_neg e, clearL_getD hi] at this
                    by_cases e2 : i < t
                    · rw [if_pos (by omega)]; rwa [if_pos e2] at this
                    · rw [if_neg (by omega)]; rwa [if_neg e2] at this
              · obtain rfl : t = out.length := by omega
                obtain ⟨wx, rfl⟩ : ∃ x : World, x = wr := ⟨_, rfl⟩
                have hos := Hos.out.frm hfx.out (.inr (Nat.le_refl _))
                obtain ⟨out', hout'⟩ : ∃ o, o = clearL p K out s out.length := ⟨_, rfl⟩
                have hmore := Hmore.out
                rw [← hout'] at hmore hgx
                have hlo : out'.length = out.length := by rw [hout', clearL_length]
                have K1 := Lib.hid (hgx.out.1.cut hlo.symm)
                have K2 := Lib.hid (fun i (hi : i < out'.length) => hgx.out.2 i (by omega))
                have K3 := Lib.hid (fun i j (hij : i < j) (hj : j < out'.length) => G3.out i j hij (by omega))
                have Hosx := Lib.hid hos
                have Hmore2 := Lib.hid hmore
                have hsx := hfx.out.size
                have hsb := Hb.out.size
                have Hbd1 := Lib.hid (show out'.length + 1 ≤ maxLen by unfold maxLen; omega)
                have Hbd2 := Lib.hid (show (out'.length + 1) * 24 ≤ 140737488355328 by omega)
                clear hos hmore hgx hout'
                go_wp2_with (at_builtin; go_must (refine wpList_append_F rfl (.tmp 66) (.tmp 68) 30 rfl 24 (.slice none 0 0) 24 Try.underlying30 info_sl rfl w.heap.size wo.heap.size _ out'.length F rfl (K1.out.below (below_alloc _ _)) (by simp; omega) (by simp; omega) _ _ _ rfl (rd_one _ _ _ rfl) (fun j _ => rfl) Hbd1.out Hbd2.out ?_; intro v' w' ho' hg'))
                have hsw' := hg'.size
                simp only [size_alloc] at hsw'
                have hbw : Below w.heap.size w w' := Hb.out.trans ((Hbs.out.mono hsb).trans ((hfx.out.below (Nat.le_refl _) (by omega)).trans (((below_alloc wx _).mono (by omega)).trans (grownBy_below hg' K1.out.blocks (Nat.le_refl _) (by simp; omega)))))
                go_roundg (rows.length - (k + 1))
                case measure => omega
                case rel =>
                  have e3 : (out' ++ [s]).length = out.length + 1 := by simp [hlo]
                  refine ⟨k + 1, out' ++ [s], _, by omega, rfl, by go_num, hbw, by omega, Hmore2.out.2.1, by rw [e3]; exact Hmore2.out.1, ?_, ?_⟩
                  · rw [e3]
                    refine (SameSp.snoc (M'' := mt (out ++ [r])) hss.out ?_ fun i hi => by rw [mt_snoc_lt hi]; exact .refl _ _ _).trans Hmore2.out.2.2
                    rw [mt_snoc_at, Hr.out]; exact .refl _ _ _
                  · exact OwnII.snoc (K1.out.below (below_alloc _ _)) (fun i hi => (K2.out i hi).below (below_alloc _ _)) K3.out ((Hosx.out.mono (Nat.le_refl _) (show wc.heap.size ≤ w'.heap.size by omega)).below (below_alloc _ _)) hsb (by omega) (by decide) hg' (Nat.le_refl _) ho'
    · obtain rfl : k = rows.length := by omega
      clear g1 g2 g3 hxc
      go_wp2_with fail
      refine (sortRows_any _ out w.heap.size wo.heap.size _ ho.out (by omega) (fun i hi => by have := (hro.out i hi).1; omega) (Nat.le_refl _)).mono ?_
      rintro e w2 ⟨rfl, τ, hτ, ho2, hf2⟩
      have Ho2 := Lib.hid ho2
      have Hf2 := Lib.hid hf2
      have Hτ := Lib.hid hτ
      clear ho2 hf2 hτ
      go_wp2_with fail
      go_ret
      have hs := hb.size
      have hz := Hf2.out.size
      obtain ⟨t1, t2, t3, t4⟩ := red_sorted hrd.out hro.out Hτ.out
      exact ⟨_, reL out τ, fun i => q (τ i), rfl, Ho2.out.mono (Nat.le_refl _) hz, hb.trans (Hf2.out.below (Nat.le_refl _) hs), t1, t2, t3, hss.out.trans t4, by rw [reL_length]; exact hnk⟩

end Go.Proofs.Ytpfefjdefopccaa

namespace Go.Proofs.Ytpfefjdefopccaa
set_option linter.all false
open Go.RowKit

/-- f 0 + .. + f (n-1) -/
def sumTo : Nat → (Nat → Int) → Int
  | 0, _ => 0
  | n + 1, f => sumTo n f + f n

theorem sumTo_bound {f : Nat → Int} {B : Int} : ∀ (n : Nat), (∀ i, i < n → 0 ≤ f i ∧ f i ≤ B) → 0 ≤ sumTo n f ∧ sumTo n f ≤ B * (n : Int)
  | 0, _ => by simp [sumTo]
  | n + 1, h => by
    have h1 := sumTo_bound n (fun i hi => h i (by omega))
    have h2 := h n (by omega)
    have e : B * ((n + 1 : Nat) : Int) = B * (n : Int) + B := by rw [Int.natCast_add, Int.mul_add]; simp
    simp only [sumTo]
    rw [e]
    omega

/-- the number at row i, column j of the product -/
def mulAt (Ca Cb : Nat) (A B : List Int) (i j : Nat) : Int := sumTo Ca fun k => A.getD (i * Ca + k) 0 * B.getD (k * Cb + j) 0
def mulRows (P : Int) (Ra Ca Cb : Nat) (A B : List Int) : List (List Int) := (List.range Ra).map fun i => (List.range Cb).map fun j => mulAt Ca Cb A B i j % P

theorem mulRows_length (P : Int) (Ra Ca Cb : Nat) (A B : List Int) : (mulRows P Ra Ca Cb A B).length = Ra := by simp [mulRows]
theorem mulRows_each (P : Int) (Ra Ca Cb : Nat) (A B : List Int) : ∀ r ∈ mulRows P Ra Ca Cb A B, r.length = Cb := by
  intro r hr
  simp only [mulRows, List.mem_map, List.mem_range] at hr
  obtain ⟨i, hi, rfl⟩ := hr
  simp
theorem mulRows_flat_length (P : Int) (Ra Ca Cb : Nat) (A B : List Int) : (mulRows P Ra Ca Cb A B).flatten.length = Ra * Cb := by
  rw [flat_length (mulRows_each P Ra Ca Cb A B), mulRows_length]
theorem mulRows_flat_getD {P : Int} {Ra Ca Cb : Nat} {A B : List Int} {t : Nat} (h : t < Ra * Cb) : (mulRows P Ra Ca Cb A B).flatten.getD t 0 = mulAt Ca Cb A B (t / Cb) (t % Cb) % P := by
  have hC : 0 < Cb := by
    rcases Nat.eq_zero_or_pos Cb with h0 | h0
    · rw [h0] at h; omega
    · exact h0
  have hd : t / Cb < Ra := Nat.div_lt_of_lt_mul (by rwa [Nat.mul_comm])
  have hm : t % Cb < Cb := Nat.mod_lt _ hC
  rw [flat_getD hC (mulRows_each P Ra Ca Cb A B)]
  simp [mulRows, List.getD_eq_getElem?_getD, hd, hm]

/-- the product, if there is one -/
def mulFits (a b : Mx) : Bool := mxOk a.P a.R a.C a.D && mxOk b.P b.R b.C b.D && decide (a.P = b.P) && decide (a.C = b.R)
def mulMx (a b : Mx) : Mx := if mulFits a b then ⟨a.P, a.R, b.C, (mulRows a.P a.R.toNat a.C.toNat b.C.toNat a.D b.D).flatten⟩ else mxZero

theorem specMatrixOk_b (P R C : Int) (d : Value) (D : List Int) (b : Bool) (hb : mxOk P R C D = b) (w : World) (h : Ints w d D) :
    Calls Try.prog 46 #[.agg #[.int .i64 P, .int .i64 R, .int .i64 C, d]] w fun e w' => e = .returned (.bool b) ∧ Below w.heap.size w w' := hb ▸ specMatrixOk_any P R C d D w h
theorem implMatrixOk_b (P R C : Int) (d : Value) (D : List Int) (b : Bool) (hb : mxOk P R C D = b) (w : World) (h : Ints w d D) :
    Calls Try.prog 36 #[.agg #[.int .i64 P, .int .i64 R, .int .i64 C, d]] w fun e w' => e = .returned (.bool b) ∧ Below w.heap.size w w' := hb ▸ implMatrixOk_any P R C d D w h

theorem mulFits_no1 {a b : Mx} (h : mxOk a.P a.R a.C a.D = false) : mulFits a b = false := by simp [mulFits, h]
theorem mulFits_no2 {a b : Mx} (h : mxOk b.P b.R b.C b.D = false) : mulFits a b = false := by simp [mulFits, h]
theorem mulFits_no3 {a b : Mx} (h : a.P ≠ b.P) : mulFits a b = false := by simp [mulFits, h]
theorem mulFits_no4 {a b : Mx} (h : a.C ≠ b.R) : mulFits a b = false := by simp [mulFits, h]
theorem mulMx_no {a b : Mx} (h : mulFits a b = false) : mulMx a b = mxZero := by simp [mulMx, h]

/-- what a matrix that is right says of its numbers -/
theorem mxOk_facts {P R C : Int} {D : List Int} (h : mxOk P R C D = true) : ∃ r c : Nat, R = r ∧ C = c ∧ r ≤ 7 ∧ 1 ≤ c ∧ c ≤ 7 ∧ D.length = r * c ∧ (∀ x ∈ D, 0 ≤ x ∧ x < P) ∧ 2 ≤ P ∧ P ≤ 7 ∧ primeOk P = true := by
  obtain ⟨h1, ⟨h2, h3⟩, ⟨h4, h5⟩, h6, h7⟩ := of_decide_eq_true h
  obtain ⟨r, rfl⟩ := Int.eq_ofNat_of_zero_le h2
  obtain ⟨c, rfl⟩ := Int.eq_ofNat_of_zero_le (show (0 : Int) ≤ C by omega)
  have := primeOk_range h1
  refine ⟨r, c, rfl, rfl, by omega, by omega, by omega, ?_, h7, this.1, this.2, h1⟩
  rw [← Int.natCast_mul] at h6
  exact Int.ofNat.inj h6

/-- the two boxes of the arguments and the block of the result, as the walks of functions of two matrices meet them -/
def Boxes3 (w : World) (T Tz : TypeId) (a b : Mx) (da db : Value) (wr : World) : Prop :=
  wr.heap[w.heap.size]? = some (.cells #[.int .i64 a.P, .int .i64 a.R, .int .i64 a.C, da] T (0, 0)) ∧
  wr.heap[w.heap.size + 1]? = some (.cells #[.int .i64 b.P, .int .i64 b.R, .int .i64 b.C, db] T (0, 0)) ∧
  wr.heap[w.heap.size + 1 + 1]? = some (.cells #[.int .i64 0, .int .i64 0, .int .i64 0, .slice none 0 0] Tz (0, 0)) ∧ Below w.heap.size w wr

theorem boxes3_start (w : World) (T Tz : TypeId) (a b : Mx) (da db : Value) : Boxes3 w T Tz a b da db
    (((w.alloc (.cells #[.int .i64 a.P, .int .i64 a.R, .int .i64 a.C, da] T)).alloc (.cells #[.int .i64 b.P, .int .i64 b.R, .int .i64 b.C, db] T)).alloc (.cells #[.int .i64 0, .int .i64 0, .int .i64 0, .slice none 0 0] Tz)) := by
  refine ⟨?_, ?_, ?_, below_alloc3 _ _ _ _⟩
  · rw [heap_alloc_low _ _ (by simp; omega), heap_alloc_low _ _ (by simp)]; exact heap_alloc_top _ _
  · rw [heap_alloc_low _ _ (by simp)]; exact heap_alloc_at _ _ (by simp)
  · exact heap_alloc_at _ _ (by simp)
theorem Boxes3.later {w : World} {T Tz : TypeId} {a b : Mx} {da db : Value} {wr wx : World} (h : Boxes3 w T Tz a b da db wr) (hb : Below wr.heap.size wr wx) : Boxes3 w T Tz a b da db wx :=
  ⟨blk_later h.1 hb, blk_later h.2.1 hb, blk_later h.2.2.1 hb, h.2.2.2.trans (hb.mono h.2.2.2.size)⟩

/-- what holds in the loops of the product: the first T numbers of it are laid -/
def MulI (w : World) (M Ti : TypeId) (a b : Mx) (da db : Value) (ra ca cb q g N T : Nat) (wr : World) : Prop :=
  Boxes3 w M M a b da db wr ∧ wr.heap[q]? = some (.cells #[.int .i64 a.P, .int .i64 (ra : Int), .int .i64 (cb : Int), .slice (some ⟨g, 0, none⟩) N N] M (0, 0)) ∧
  wr.rowIs g Ti N (fun t => .int .i64 (if t < T then mulAt ca cb a.D b.D (t / cb) (t % cb) % a.P else 0))

theorem MulI.later {w : World} {M Ti : TypeId} {a b : Mx} {da db : Value} {ra ca cb q g N T : Nat} {wr wx : World} (h : MulI w M Ti a b da db ra ca cb q g N T wr) (hb : Below wr.heap.size wr wx) : MulI w M Ti a b da db ra ca cb q g N T wx :=
  ⟨h.1.later hb, blk_later h.2.1 hb, h.2.2.of_block (hb.block _ h.2.2.lt)⟩
theorem MulI.set {w : World} {M Ti : TypeId} {a b : Mx} {da db : Value} {ra ca cb q g N T i j : Nat} {wr : World} (h : MulI w M Ti a b da db ra ca cb q g N T wr) (hq : q ≠ g) (hg : w.heap.size + 1 + 1 < g) (hj : j < cb) (hT : T = i * cb + j)
    (x : Int) (hx : x = mulAt ca cb a.D b.D i j % a.P) : MulI w M Ti a b da db ra ca cb q g N (T + 1) (wr.setCell ⟨g, T, none⟩ (.int .i64 x)) := by
  obtain ⟨⟨h1, h2, h3, h4⟩, h5, h6⟩ := h
  refine ⟨⟨?_, ?_, ?_, h4.setCell (by show w.heap.size ≤ g; omega) _⟩, ?_, (h6.set T _).congr fun t ht => ?_⟩
  · rw [Below.heap_setCell _ _ _ _ (by show _ ≠ g; omega)]; exact h1
  · rw [Below.heap_setCell _ _ _ _ (by show _ ≠ g; omega)]; exact h2
  · rw [Below.heap_setCell _ _ _ _ (by show _ ≠ g; omega)]; exact h3
  · rw [Below.heap_setCell _ _ _ _ (by show _ ≠ g; omega)]; exact h5
  · obtain ⟨e1, e2⟩ := div_at (k := i) hj
    by_cases e : t = T
    · subst e; simp only [if_true, show t < t + 1 by omega]; rw [hT, e1, e2, hx]
    · simp only [e, if_false]
      by_cases e3 : t < T
      · simp only [e3, if_true, show t < T + 1 by omega]
      · simp only [e3, if_false, show ¬ t < T + 1 by omega]

set_option maxRecDepth 100000 in
set_option maxHeartbeats 4000000 in
theorem specMul_yes (a b : Mx) (da db : Value) (w : World) (ha : Ints w da a.D) (hb : Ints w db b.D) (h1 : mxOk a.P a.R a.C a.D = true) (h2 : mxOk b.P b.R b.C b.D = true) (h3 : a.P = b.P) (h4 : a.C = b.R) :
    Calls Try.prog 35 #[.agg #[.int .i64 a.P, .int .i64 a.R, .int .i64 a.C, da], .agg #[.int .i64 b.P, .int .i64 b.R, .int .i64 b.C, db]] w
      (RetMB w (mulMx a b) (mulFits a b)) := by
  have Ha := Lib.hid ha
  have Hb := Lib.hid hb
  obtain ⟨pa, ka, rfl, ⟨la, ma⟩, _⟩ := ha
  obtain ⟨pb, kb, rfl, ⟨lb, mb⟩, _⟩ := hb
  unfold maxLen at ma mb
  have Hst := Lib.hid (boxes3_start w 26 26 a b (.slice pa a.D.length ka) (.slice pb b.D.length kb))
  have hf : mulFits a b = true := by unfold mulFits; rw [h1, h2, decide_eq_true h3, decide_eq_true h4]; rfl
  have hm : mulMx a b = ⟨a.P, a.R, b.C, (mulRows a.P a.R.toNat a.C.toNat b.C.toNat a.D b.D).flatten⟩ := by simp [mulMx, hf]
  rw [hf, hm]
  have H1 := Lib.hid h1
  have H2 := Lib.hid h2
  have h3' : (a.P != b.P) = false := by simp [h3]
  have h4' : (a.C != b.R) = false := by simp [h4]
  obtain ⟨aP, aR, aC, A⟩ := a
  obtain ⟨bP, bR, bC, B⟩ := b
  simp only at *
  subst h3 h4
  obtain ⟨ra, ca, rfl, rfl, hra, hca0, hca, hlA, hA, hP2, hP7, hpr⟩ := mxOk_facts h1
  obtain ⟨_, cb, e1, rfl, hrb, hcb0, hcb, hlB, hB, _, _, _⟩ := mxOk_facts h2
  have e1 := Int.ofNat.inj e1
  subst e1
  simp only [Int.toNat_natCast]
  have HA := Lib.hid hA
  have HB := Lib.hid hB
  have hrc : ra * cb ≤ 7 * 7 := Nat.mul_le_mul hra hcb
  have hrca : ra * ca ≤ 7 * 7 := Nat.mul_le_mul hra hca
  have hrcb : ca * cb ≤ 7 * 7 := Nat.mul_le_mul hca hcb
  have HlA := Lib.hid hlA
  have HlB := Lib.hid hlB
  clear h1 h2 hf hm hA hB hlA hlB hpr
  go_enter Try.func35, Try.ntmps35
  go_wp2_with fail
  refine (specMatrixOk_b _ _ _ _ _ _ H1.out _ (Ha.out.below (below_alloc3 _ _ _ _))).mono ?_
  rintro e w1 ⟨rfl, hb1⟩
  have Hs := Lib.hid (Hst.out.later hb1)
  have hBl := Hs.out.2.2.2
  obtain ⟨c10, c11, c12, c13, c1f, hz1⟩ := blk4 Hs.out.2.1
  clear hb1
  go_wp2_with fail
  refine (specMatrixOk_b _ _ _ _ _ _ H2.out _ (Hb.out.below hBl)).mono ?_
  rintro e w2 ⟨rfl, hb2⟩
  have Hs2 := Lib.hid (Hs.out.later hb2)
  clear hb2 c10 c11 c12 c13 c1f hz1 hBl Hs
  obtain ⟨d00, d01, d02, d03, d0f, dz0⟩ := blk4 Hs2.out.1
  obtain ⟨d10, d11, d12, d13, d1f, dz1⟩ := blk4 Hs2.out.2.1
  go_wp2_with fail
  obtain ⟨N, hN, hwr, hwk⟩ := mul_named ra cb (by omega)
  have Hwr := Lib.hid hwr
  have Hwk := Lib.hid hwk
  clear hwr hwk
  have hN49 : N ≤ 49 := by omega
  have HN := Lib.hid hN
  have hmk := run_make_row' (P := Try.prog) 24 3 (.int .i64 0) 8 Try.underlying24 info_int rfl .i64 .i64 N (by omega) (by omega)
  have hwr := Hwr.out
  have hwk := Hwk.out
  clear hN h3' h4'
  go_cut [6] (fun s6 wc => ∃ q g, s6 = .pointer (some ⟨q, 0, none⟩) ∧ w2.heap.size ≤ q ∧ w2.heap.size ≤ g ∧ q ≠ g ∧
    wc.heap[q]? = some (.cells #[.int .i64 aP, .int .i64 (ra : Int), .int .i64 (cb : Int), .slice (some ⟨g, 0, none⟩) N N] 26) ∧ wc.rowIs g 3 N (fun _ => .int .i64 0) ∧ Below w2.heap.size w2 wc)
  case first =>
    go_region_held3 (fun w' => w'.cell? ⟨w.heap.size, 0, none⟩ = some (.int .i64 aP) ∧ w'.cell? ⟨w.heap.size, 1, none⟩ = some (.int .i64 (ra : Int)) ∧ w'.cell? ⟨w.heap.size + 1, 2, none⟩ = some (.int .i64 (cb : Int))) (first | go_keep) (first | fail)
    all_goals go_wp2_with fail
    all_goals go_meet
    all_goals clear hmk hwr hwk
    all_goals
      have e3 := World.rowIs_made w2 (.int .i64 0) N 3
    · refine ⟨w2.heap.size + 1, w2.heap.size, rfl, ?_, ?_, ?_, heap_alloc_at _ _ (by simp), (e3.alloc _).drew, (below_alloc2 w2 _ _).drew⟩
      · omega
      · omega
      · omega
    · refine ⟨w2.heap.size, w2.heap.size + 1, rfl, ?_, ?_, ?_, ?_, ?_, (below_alloc2 w2 _ _).drew⟩
      · omega
      · omega
      · omega
      · exact (heap_alloc_low _ _ (by simp)).trans (heap_alloc_top _ _)
      · have e4 := World.rowIs_made (w2.alloc (.cells #[.int .i64 aP, .int .i64 (ra : Int), .int .i64 (cb : Int), .slice (some ⟨w2.heap.size + 1, 0, none⟩) N N] 26)) (.int .i64 0) N 3
        simp only [size_alloc] at e4
        exact e4.drew
  case rest =>
    obtain ⟨q, g, rfl, hq2, hg2, hqg, hq, hg, hbc⟩ := hcut
    have Hs3 := Lib.hid (Hs2.out.later hbc)
    have hws := Hs2.out.2.2.2.size
    have hz3 := blk_lt Hs2.out.2.2.1
    have Hq := Lib.hid hq
    have Hg := Lib.hid hg
    clear hmk hwr hwk d00 d01 d02 d03 d0f dz0 d10 d11 d12 d13 d1f dz1 hbc hq hg Hs2
    have hg3 : w.heap.size + 1 + 1 < g := by omega
    have hM0 : MulI w 26 3 ⟨aP, (ra : Int), (ca : Int), A⟩ ⟨aP, (ca : Int), (cb : Int), B⟩ (.slice pa A.length ka) (.slice pb B.length kb) ra ca cb q g N 0 wc :=
      ⟨Hs3.out, Hq.out, Hg.out.congr fun t _ => by simp⟩
    have HM0 := Lib.hid hM0
    clear hM0 Hs3 Hq Hg
    go_wp2_with fail
    go_loopg [7] ra (fun gh s7 wr => ∃ i : Nat, i ≤ ra ∧ gh = ra - i ∧ s7 = .int .i64 i ∧ MulI w 26 3 ⟨aP, (ra : Int), (ca : Int), A⟩ ⟨aP, (ca : Int), (cb : Int), B⟩ (.slice pa A.length ka) (.slice pb B.length kb) ra ca cb q g N (i * cb) wr)
    case atStart => exact ⟨0, Nat.zero_le _, rfl, rfl, by rw [Nat.zero_mul]; exact HM0.out⟩
    case round =>
      obtain ⟨i, hi, rfl, rfl, hM⟩ := hrel
      clear HM0
      obtain ⟨d00, d01, d02, d03, d0f, dz0⟩ := blk4 hM.1.1
      have HM := Lib.hid hM
      clear hM
      by_cases hlt : i < ra
      · have hiN := mul_le_of (C := cb) hlt
        rw [Nat.add_mul, Nat.one_mul, ← HN.out] at hiN
        go_wp2_with fail
        clear d00 d01 d02 d03 d0f dz0
        go_loopg [8] cb (fun gh s8 wr => ∃ j : Nat, j ≤ cb ∧ gh = cb - j ∧ s8 = .int .i64 j ∧ MulI w 26 3 ⟨aP, (ra : Int), (ca : Int), A⟩ ⟨aP, (ca : Int), (cb : Int), B⟩ (.slice pa A.length ka) (.slice pb B.length kb) ra ca cb q g N (i * cb + j) wr)
        case atStart => exact ⟨0, Nat.zero_le _, rfl, rfl, HM.out⟩
        case round =>
          obtain ⟨j, hj, rfl, rfl, hM⟩ := hrel
          clear HM
          obtain ⟨d10, d11, d12, d13, d1f, dz1⟩ := blk4 hM.1.2.1
          have HM := Lib.hid hM
          clear hM
          by_cases hltj : j < cb
          · go_wp2_with fail
            clear d10 d11 d12 d13 d1f dz1
            go_loopg [9, 10] ca (fun gh s9 s10 wr => ∃ k : Nat, k ≤ ca ∧ gh = ca - k ∧ s10 = .int .i64 k ∧ s9 = .int .i64 (sumTo k fun k => A.getD (i * ca + k) 0 * B.getD (k * cb + j) 0) ∧ MulI w 26 3 ⟨aP, (ra : Int), (ca : Int), A⟩ ⟨aP, (ca : Int), (cb : Int), B⟩ (.slice pa A.length ka) (.slice pb B.length kb) ra ca cb q g N (i * cb + j) wr)
            case atStart => exact ⟨0, Nat.zero_le _, rfl, rfl, rfl, HM.out⟩
            case round =>
              obtain ⟨k, hk, rfl, rfl, rfl, hM⟩ := hrel
              clear HM
              obtain ⟨d00, d01, d02, d03, d0f, dz0⟩ := blk4 hM.1.1
              have HM := Lib.hid hM
              clear hM
              have hsb := sumTo_bound (f := fun k => A.getD (i * ca + k) 0 * B.getD (k * cb + j) 0) (B := 49) k (fun t _ => by
                have u1 := getD_range HA.out (by omega) (i * ca + t)
                have u2 := getD_range HB.out (by omega) (t * cb + j)
                exact mul_range (a := 7) (b := 7) u1.1 (by omega) u2.1 (by omega))
              have hsucc : sumTo (k + 1) (fun k => A.getD (i * ca + k) 0 * B.getD (k * cb + j) 0) = sumTo k (fun k => A.getD (i * ca + k) 0 * B.getD (k * cb + j) 0) + A.getD (i * ca + k) 0 * B.getD (k * cb + j) 0 := rfl
              have hfull : k = ca → sumTo k (fun k => A.getD (i * ca + k) 0 * B.getD (k * cb + j) 0) = mulAt ca cb A B i j := fun e => by subst e; rfl
              have Hsucc := Lib.hid hsucc
              have Hfull := Lib.hid hfull
              clear hsucc hfull
              generalize hs : sumTo k (fun k => A.getD (i * ca + k) 0 * B.getD (k * cb + j) 0) = s at hsb Hsucc Hfull ⊢
              clear hs
              by_cases hltk : k < ca
              · have u1 := getD_range HA.out (by omega) (i * ca + k)
                have u2 := getD_range HB.out (by omega) (k * cb + j)
                have hik : i * ca + k < A.length := by
                  have := mul_le_of (C := ca) hlt
                  rw [Nat.add_mul, Nat.one_mul, ← HlA.out] at this
                  omega
                have hkj : k * cb + j < B.length := by
                  have := mul_le_of (C := cb) hltk
                  rw [Nat.add_mul, Nat.one_mul, ← HlB.out] at this
                  omega
                have hA6 : A.length ≤ 1000000 := by have := HlA.out; omega
                have hB6 : B.length ≤ 1000000 := by have := HlB.out; omega
                have cA := fun (W : World) (h : Ints W (.slice pa A.length ka) A) => l7At_any aP ra ca i k _ A W h hik hA6
                have cB := fun (W : World) (h : Ints W (.slice pb B.length kb) B) => l7At_any aP ca cb k j _ B W h hkj hB6
                generalize hy : A.getD (i * ca + k) 0 = y at u1 cA Hsucc
                generalize hz : B.getD (k * cb + j) 0 = z at u2 cB Hsucc
                have hm := mul_range (a := 7) (b := 7) u1.1 (by omega) u2.1 (by omega)
                have b1 : -1000000000000000000 ≤ y * z := by omega
                have b2 : y * z ≤ 1000000000000000000 := by omega
                have b3 : -1000000000000000000 ≤ s + y * z := by omega
                have b4 : s + y * z ≤ 1000000000000000000 := by omega
                have CA := Lib.hid cA
                have CB := Lib.hid cB
                have HaW := Lib.hid (Ha.out.below HM.out.1.2.2.2)
                have HbW := Lib.hid (Hb.out.below HM.out.1.2.2.2)
                obtain ⟨d10, d11, d12, d13, d1f, dz1⟩ := blk4 HM.out.1.2.1
                clear cA cB hy hz hik hkj hA6 hB6 u1 u2 hm hsb
                go_wp2_with fail
                have f1 := k64 b1 b2
                have f2 := k64 b3 b4
                clear b1 b2 b3 b4
                go_region_held3 (fun w' => (w'.cell? ⟨w.heap.size, 0, none⟩ = some (.int .i64 aP) ∧ w'.cell? ⟨w.heap.size, 1, none⟩ = some (.int .i64 (ra : Int)) ∧ w'.cell? ⟨w.heap.size, 2, none⟩ = some (.int .i64 (ca : Int)) ∧ w'.cell? ⟨w.heap.size, 3, none⟩ = some (.slice pa A.length ka) ∧
                    w'.cell? ⟨w.heap.size + 1, 0, none⟩ = some (.int .i64 aP) ∧ w'.cell? ⟨w.heap.size + 1, 1, none⟩ = some (.int .i64 (ca : Int)) ∧ w'.cell? ⟨w.heap.size + 1, 2, none⟩ = some (.int .i64 (cb : Int)) ∧ w'.cell? ⟨w.heap.size + 1, 3, none⟩ = some (.slice pb B.length kb)) ∧ Below wr.heap.size wr w')
                  (first
                    | exact ⟨⟨d00, d01, d02, d03, d10, d11, d12, d13⟩, (Below.refl _ _).drew⟩
                    | exact keep8 hb1 (by assumption))
                  (first
                    | (go_at_call_of 47 (Value.slice pa A.length ka); refine (CA.out _ (held_ints HaW.out (by assumption))).mono ?_; rintro e w' ⟨rfl, hb1⟩)
                    | (go_at_call_of 47 (Value.slice pb B.length kb); refine (CB.out _ (held_ints HbW.out (by assumption))).mono ?_; rintro e w' ⟨rfl, hb1⟩))
                have hbw : Below wr.heap.size wr w' := held_below (by assumption)
                clear f1 f2 d00 d01 d02 d03 d0f dz0 d10 d11 d12 d13 d1f dz1
                go_wp2_with fail
                go_roundg (ca - (k + 1))
                case measure => omega
                case rel => exact ⟨k + 1, by omega, rfl, by go_num, by rw [Hsucc.out], HM.out.later hbw⟩
              · have hs2 := Hfull.out (by omega)
                obtain ⟨K, hK, hr1, hr2⟩ := mul_named i cb (by omega)
                have Hr1 := Lib.hid hr1
                have Hr2 := Lib.hid hr2
                clear hr1 hr2
                have hKj : K + j < N := by omega
                have b1 : -1000000000000000000 ≤ (K : Int) + (j : Int) := by omega
                have b2 : (K : Int) + (j : Int) ≤ 1000000000000000000 := by omega
                have hi1 : (0 : Int) ≤ (K : Int) + j := by omega
                have hi2 : (K : Int) + (j : Int) < (N : Int) := by omega
                have hi3 : ((K : Int) + (j : Int)).toNat = K + j := by omega
                have hsnn : 0 ≤ s := hsb.1
                have hp0 : ¬ aP = 0 := by omega
                obtain ⟨d10, d11, d12, d13, d1f, dz1⟩ := blk4 HM.out.1.2.1
                obtain ⟨q0, q1, q2, q3, qf, qz⟩ := blk4 HM.out.2.1
                obtain ⟨z, c3⟩ : ∃ z, wr.cell? ⟨g, K + j, none⟩ = some (.int .i64 z) := ⟨_, HM.out.2.2.cell hKj⟩
                have c4 := HM.out.2.2.frozen (K + j)
                have HK := Lib.hid hK
                have Hs := Lib.hid hs2
                clear hsb hK hs2
                go_wp2_with fail
                have f1 := Hr1.out
                have f2 := Hr2.out
                have f3 := w64 b1 b2
                have f4 := k64 b1 b2
                clear b1 b2
                go_still_tail 13, (by kernel_rfl)
                change wpList _ _ _ _ _ wr.drew
                clear f1 f2 f3 f4
                go_wp2_with fail
                clear d00 d01 d02 d03 d0f dz0 d10 d11 d12 d13 d1f dz1 q0 q1 q2 q3 qf qz c3 c4
                go_roundg (cb - (j + 1))
                case measure => omega
                case rel =>
                  refine ⟨j + 1, by omega, rfl, by go_num, ?_⟩
                  have hset := HM.out.set hqg hg3 hltj rfl (s % aP) (by rw [Hs.out])
                  rw [← HK.out] at hset
                  rw [← Nat.add_assoc, ← HK.out]
                  exact hset.later ((Below.refl _ _).drew)
          · obtain rfl : j = cb := by omega
            go_wp2_with fail
            clear d10 d11 d12 d13 d1f dz1
            go_roundg (ra - (i + 1))
            case measure => omega
            case rel => exact ⟨i + 1, by omega, rfl, by go_num, by rw [Nat.add_mul, Nat.one_mul]; exact HM.out⟩
      · obtain rfl : i = ra := by omega
        obtain ⟨q0, q1, q2, q3, qf, qz⟩ := blk4 HM.out.2.1
        obtain ⟨c00, c01, c02, c03, c0f, hz0⟩ := blk4 HM.out.1.2.2.1
        have hown : OwnI 3 wr (w.heap.size + 1 + 1 + 1) wr.heap.size (.slice (some ⟨g, 0, none⟩) N N) (mulRows aP i ca cb A B).flatten := by
          have hl : (mulRows aP i ca cb A B).flatten.length = N := by rw [mulRows_flat_length]; exact HN.out.symm
          refine OwnF.ints ?_
          rw [hl]
          refine OwnF.mk' HM.out.2.2 (by omega) HM.out.2.2.lt (Nat.le_refl _) (by unfold maxLen; omega) fun t ht => ?_
          have ht' : t < i * cb := by rw [← HN.out]; exact ht
          rw [iv, mulRows_flat_getD ht']
          simp [ht']
        have Hown := Lib.hid hown
        clear hown
        go_wp2_with fail
        refine bodyPost_ret (v := .tuple #[.agg #[.int .i64 aP, .int .i64 (i : Int), .int .i64 (cb : Int), .slice (some ⟨g, 0, none⟩) N N], .bool true]) (by simp [results, Try.results35, go_sem, c00, c01, c02, c03, hz0]) rfl ⟨_, rfl, ?_, ?_⟩
        · exact (own_set4 Hown.out (.inl (by omega)) _ _ _ _).mono (by omega) (by simp only [size_setCell]; omega)
        · exact below_set4 HM.out.1.2.2.2 (by omega) _ _ _ _

set_option maxRecDepth 100000 in
set_option maxHeartbeats 4000000 in
theorem specMul_any (a b : Mx) (da db : Value) (w : World) (ha : Ints w da a.D) (hb : Ints w db b.D) :
    Calls Try.prog 35 #[.agg #[.int .i64 a.P, .int .i64 a.R, .int .i64 a.C, da], .agg #[.int .i64 b.P, .int .i64 b.R, .int .i64 b.C, db]] w
      (RetMB w (mulMx a b) (mulFits a b)) := by
  have Ha := Lib.hid ha
  have Hb := Lib.hid hb
  obtain ⟨pa, ka, rfl, ⟨la, ma⟩, _⟩ := ha
  obtain ⟨pb, kb, rfl, ⟨lb, mb⟩, _⟩ := hb
  unfold maxLen at ma mb
  have Hst := Lib.hid (boxes3_start w 26 26 a b (.slice pa a.D.length ka) (.slice pb b.D.length kb))
  cases h1 : mxOk a.P a.R a.C a.D with
  | false =>
    have hf := mulFits_no1 (b := b) h1
    rw [hf, mulMx_no hf]
    have H1 := Lib.hid h1
    clear h1 hf
    go_enter Try.func35, Try.ntmps35
    go_wp2_with fail
    refine (specMatrixOk_b _ _ _ _ _ _ H1.out _ (Ha.out.below (below_alloc3 _ _ _ _))).mono ?_
    rintro e w1 ⟨rfl, hb1⟩
    have Hs := Lib.hid (Hst.out.later hb1)
    clear hb1
    obtain ⟨c00, c01, c02, c03, c0f, hz0⟩ := blk4 Hs.out.2.2.1
    go_wp2_with fail
    refine bodyPost_ret (v := .tuple #[.agg #[.int .i64 0, .int .i64 0, .int .i64 0, .slice none 0 0], .bool false]) (by simp [results, Try.results35, go_sem, c00, c01, c02, c03, hz0]) rfl ⟨_, rfl, ?_, ?_⟩
    · exact ⟨World.ownsRow_nil _ _ _ _, fun k hk => by simp [Value.ownBlock] at hk⟩
    · exact below_set4 Hs.out.2.2.2 (by omega) _ _ _ _
  | true =>
    cases h2 : mxOk b.P b.R b.C b.D with
    | false =>
      have hf := mulFits_no2 (a := a) h2
      rw [hf, mulMx_no hf]
      have H1 := Lib.hid h1
      have H2 := Lib.hid h2
      clear h1 h2 hf
      go_enter Try.func35, Try.ntmps35
      go_wp2_with fail
      refine (specMatrixOk_b _ _ _ _ _ _ H1.out _ (Ha.out.below (below_alloc3 _ _ _ _))).mono ?_
      rintro e w1 ⟨rfl, hb1⟩
      have Hs := Lib.hid (Hst.out.later hb1)
      have hB := Hs.out.2.2.2
      obtain ⟨c10, c11, c12, c13, c1f, hz1⟩ := blk4 Hs.out.2.1
      clear hb1
      go_wp2_with fail
      refine (specMatrixOk_b _ _ _ _ _ _ H2.out _ (Hb.out.below hB)).mono ?_
      rintro e w2 ⟨rfl, hb2⟩
      have Hs2 := Lib.hid (Hs.out.later hb2)
      clear hb2 c10 c11 c12 c13 c1f hz1 hB
      obtain ⟨c00, c01, c02, c03, c0f, hz0⟩ := blk4 Hs2.out.2.2.1
      go_wp2_with fail
      refine bodyPost_ret (v := .tuple #[.agg #[.int .i64 0, .int .i64 0, .int .i64 0, .slice none 0 0], .bool false]) (by simp [results, Try.results35, go_sem, c00, c01, c02, c03, hz0]) rfl ⟨_, rfl, ?_, ?_⟩
      · exact ⟨World.ownsRow_nil _ _ _ _, fun k hk => by simp [Value.ownBlock] at hk⟩
      · exact below_set4 Hs2.out.2.2.2 (by omega) _ _ _ _
    | true =>
      have H1 := Lib.hid h1
      have H2 := Lib.hid h2
      by_cases h3 : a.P = b.P
      case neg =>
        have hf := mulFits_no3 h3
        rw [hf, mulMx_no hf]
        have h3' : (a.P != b.P) = true := by simp [h3]
        clear h1 h2 hf h3
        go_enter Try.func35, Try.ntmps35
        go_wp2_with fail
        refine (specMatrixOk_b _ _ _ _ _ _ H1.out _ (Ha.out.below (below_alloc3 _ _ _ _))).mono ?_
        rintro e w1 ⟨rfl, hb1⟩
        have Hs := Lib.hid (Hst.out.later hb1)
        have hB := Hs.out.2.2.2
        obtain ⟨c10, c11, c12, c13, c1f, hz1⟩ := blk4 Hs.out.2.1
        clear hb1
        go_wp2_with fail
        refine (specMatrixOk_b _ _ _ _ _ _ H2.out _ (Hb.out.below hB)).mono ?_
        rintro e w2 ⟨rfl, hb2⟩
        have Hs2 := Lib.hid (Hs.out.later hb2)
        clear hb2 c10 c11 c12 c13 c1f hz1 hB
        obtain ⟨d00, d01, d02, d03, d0f, dz0⟩ := blk4 Hs2.out.1
        obtain ⟨d10, d11, d12, d13, d1f, dz1⟩ := blk4 Hs2.out.2.1
        obtain ⟨c00, c01, c02, c03, c0f, hz0⟩ := blk4 Hs2.out.2.2.1
        go_wp2_with fail
        refine bodyPost_ret (v := .tuple #[.agg #[.int .i64 0, .int .i64 0, .int .i64 0, .slice none 0 0], .bool false]) (by simp [results, Try.results35, go_sem, c00, c01, c02, c03, hz0]) rfl ⟨_, rfl, ?_, ?_⟩
        · exact ⟨World.ownsRow_nil _ _ _ _, fun k hk => by simp [Value.ownBlock] at hk⟩
        · exact below_set4 Hs2.out.2.2.2 (by omega) _ _ _ _
      by_cases h4 : a.C = b.R
      case neg =>
        have hf := mulFits_no4 h4
        rw [hf, mulMx_no hf]
        have h3' : (a.P != b.P) = false := by simp [h3]
        have h4' : (a.C != b.R) = true := by simp [h4]
        clear h1 h2 hf h3 h4
        go_enter Try.func35, Try.ntmps35
        go_wp2_with fail
        refine (specMatrixOk_b _ _ _ _ _ _ H1.out _ (Ha.out.below (below_alloc3 _ _ _ _))).mono ?_
        rintro e w1 ⟨rfl, hb1⟩
        have Hs := Lib.hid (Hst.out.later hb1)
        have hB := Hs.out.2.2.2
        obtain ⟨c10, c11, c12, c13, c1f, hz1⟩ := blk4 Hs.out.2.1
        clear hb1
        go_wp2_with fail
        refine (specMatrixOk_b _ _ _ _ _ _ H2.out _ (Hb.out.below hB)).mono ?_
        rintro e w2 ⟨rfl, hb2⟩
        have Hs2 := Lib.hid (Hs.out.later hb2)
        clear hb2 c10 c11 c12 c13 c1f hz1 hB
        obtain ⟨d00, d01, d02, d03, d0f, dz0⟩ := blk4 Hs2.out.1
        obtain ⟨d10, d11, d12, d13, d1f, dz1⟩ := blk4 Hs2.out.2.1
        obtain ⟨c00, c01, c02, c03, c0f, hz0⟩ := blk4 Hs2.out.2.2.1
        go_wp2_with fail
        refine bodyPost_ret (v := .tuple #[.agg #[.int .i64 0, .int .i64 0, .int .i64 0, .slice none 0 0], .bool false]) (by simp [results, Try.results35, go_sem, c00, c01, c02, c03, hz0]) rfl ⟨_, rfl, ?_, ?_⟩
        · exact ⟨World.ownsRow_nil _ _ _ _, fun k hk => by simp [Value.ownBlock] at hk⟩
        · exact below_set4 Hs2.out.2.2.2 (by omega) _ _ _ _
      exact specMul_yes a b _ _ w Ha.out Hb.out h1 h2 h3 h4

theorem mulMx_len (a b : Mx) : (mulMx a b).D.length ≤ 1000000 := by
  unfold mulMx
  split
  · rename_i h
    unfold mulFits at h
    simp only [Bool.and_eq_true] at h
    obtain ⟨ra, ca, e1, e2, h1, _, h2, _⟩ := mxOk_facts h.1.1.1
    obtain ⟨rb, cb, e3, e4, h3, _, h4, _⟩ := mxOk_facts h.1.1.2
    show (mulRows _ _ _ _ _ _).flatten.length ≤ _
    rw [mulRows_flat_length, e1, e4]
    have := Nat.mul_le_mul h1 h4
    simp only [Int.toNat_natCast]
    omega
  · simp [mxZero]

end Go.Proofs.Ytpfefjdefopccaa

namespace Go.Proofs.Ytpfefjdefopccaa
set_option linter.all false
open Go.RowKit

/-- the reduced form of what R rows span: n rows M with the columns q -/
def IsRed (P : Int) (C R : Nat) (M0 : Nat → Nat → Int) (n : Nat) (M : Nat → Nat → Int) (q : Nat → Nat) : Prop :=
  Red P C n M q ∧ (∀ i k, i < k → k < n → q i < q k) ∧ (∀ i c, i < n → c < C → 0 ≤ M i c ∧ M i c < P) ∧ SameSp P C R M0 n M
theorem IsRed.one {P : Int} {C R n n' : Nat} {M0 M M' : Nat → Nat → Int} {q q' : Nat → Nat} (hP : 2 ≤ P) (h : IsRed P C R M0 n M q) (h' : IsRed P C R M0 n' M' q') :
    n = n' ∧ (∀ i, i < n → q i = q' i) ∧ ∀ i j, i < n → j < C → M i j = M' i j :=
  red_unique hP h.1 h'.1 h.2.1 h'.2.1 (h.2.2.2.symm.trans h'.2.2.2) h.2.2.1 h'.2.2.1
def HasRank (P : Int) (C R : Nat) (M0 : Nat → Nat → Int) (n : Nat) : Prop := ∃ M q, IsRed P C R M0 n M q
theorem HasRank.one {P : Int} {C R n n' : Nat} {M0 : Nat → Nat → Int} (hP : 2 ≤ P) (h : HasRank P C R M0 n) (h' : HasRank P C R M0 n') : n = n' := by
  obtain ⟨M, q, h⟩ := h
  obtain ⟨M', q', h'⟩ := h'
  exact (h.one hP h').1
/-- from rows of lists to what lies flat -/
theorem rows_flat {P : Int} {C R : Nat} {D : List Int} : SameSp P C R (mf C fun t => D.getD t 0) (rowsOf R C D).length (mt (rowsOf R C D)) := by
  rw [rowsOf_length]
  refine SameSp.of_eqv fun i hi => .of_eq fun c hc => ?_
  unfold mf mt
  rw [rowsOf_getD hi, rowAt_getD hc]
theorem rowsOf_ok {P : Int} {C R : Nat} {D : List Int} (h : D.length = R * C) (hr : ∀ t, 0 ≤ D.getD t 0 ∧ D.getD t 0 < P) : RowsOk P C (rowsOf R C D) := fun i hi => by
  rw [rowsOf_length] at hi
  have hl : (rowAt C D i).length = C := rowAt_length (by rw [h]; exact mul_le_of hi)
  rw [rowsOf_getD hi]
  refine ⟨hl, fun j => ?_⟩
  by_cases hj : j < C
  · rw [rowAt_getD hj]; exact hr _
  · rw [getD_out (by omega)]
    have := hr 0
    omega

/-- what RankOf returns -/
def RkIs (P R C : Int) (D : List Int) (r : Int) : Prop :=
  if mxOk P R C D = true then ∃ n : Nat, r = n ∧ (n : Int) ≤ R ∧ HasRank P C.toNat R.toNat (mf C.toNat fun t => D.getD t 0) n else r = -1
theorem RkIs.one {P R C : Int} {D : List Int} {r r' : Int} (h : RkIs P R C D r) (h' : RkIs P R C D r') : r = r' := by
  unfold RkIs at h h'
  by_cases e : mxOk P R C D = true
  · rw [if_pos e] at h h'
    obtain ⟨n, rfl, _, h⟩ := h
    obtain ⟨n', rfl, _, h'⟩ := h'
    obtain ⟨_, _, _, _, _, _, _, _, _, hP, _⟩ := mxOk_facts e
    rw [h.one hP h']
  · rw [if_neg e] at h h'
    omega
theorem RkIs.eps {P R C : Int} {D : List Int} {r : Int} (h : RkIs P R C D r) : r = Classical.epsilon (RkIs P R C D) := h.one (Classical.epsilon_spec ⟨r, h⟩)

set_option maxRecDepth 100000 in
set_option maxHeartbeats 1000000 in
theorem implRankOf_ex (P R C : Int) (d : Value) (D : List Int) (w : World) (hd : Ints w d D) :
    Calls Try.prog 37 #[.agg #[.int .i64 P, .int .i64 R, .int .i64 C, d]] w fun e w' => ∃ r, e = .returned (.int .i64 r) ∧ RkIs P R C D r ∧ Below w.heap.size w w' := by
  have Hd := Lib.hid hd
  obtain ⟨p, cap, rfl, ⟨_, mx⟩, _⟩ := hd
  unfold maxLen at mx
  cases h1 : mxOk P R C D with
  | false =>
    have H1 := Lib.hid h1
    clear h1
    go_enter Try.func37, Try.ntmps37
    go_wp2_with fail
    refine (implMatrixOk_b _ _ _ _ _ _ H1.out _ (Hd.out.below (below_alloc _ _))).mono ?_
    rintro e w1 ⟨rfl, hb1⟩
    have Hb1 := Lib.hid ((below_alloc w _).trans (hb1.mono (by simp)))
    clear hb1
    go_wp2_with fail
    go_ret
    exact ⟨_, rfl, by unfold RkIs; rw [H1.out]; rfl, Hb1.out⟩
  | true =>
    obtain ⟨r, c, rfl, rfl, hr, hc0, hc, hlD, hD, hP2, hP7, hpr⟩ := mxOk_facts h1
    have H1 := Lib.hid h1
    have Hrg := Lib.hid (fun t => getD_range hD (by omega) t)
    have HlD := Lib.hid hlD
    have Hpr := Lib.hid hpr
    clear h1 hlD hD hpr
    go_enter Try.func37, Try.ntmps37
    go_wp2_with fail
    refine (implMatrixOk_b _ _ _ _ _ _ H1.out _ (Hd.out.below (below_alloc _ _))).mono ?_
    rintro e w1 ⟨rfl, hb1⟩
    have Z := Lib.hid ((hb1.block _ (by simp)).trans (heap_alloc_top _ _))
    have Hb1 := Lib.hid ((below_alloc w _).trans (hb1.mono (by simp)))
    have Hd1 := Lib.hid (Hd.out.below Hb1.out)
    clear hb1
    obtain ⟨c0, c1, c2, c3, cf, cz⟩ := blk4 Z.out
    go_wp2_with fail
    go_region_held3 (fun w' => (w'.cell? ⟨w.heap.size, 0, none⟩ = some (.int .i64 P) ∧ w'.cell? ⟨w.heap.size, 1, none⟩ = some (.int .i64 (r : Int)) ∧ w'.cell? ⟨w.heap.size, 2, none⟩ = some (.int .i64 (c : Int)) ∧ w'.cell? ⟨w.heap.size, 3, none⟩ = some (.slice p D.length cap)) ∧ Below w1.heap.size w1 w')
      (first | exact ⟨⟨c0, c1, c2, c3⟩, (Below.refl _ _).drew⟩ | exact keep4 hb1 (by assumption))
      (first
        | (go_at_call 20; refine (lines_any P r c _ D _ (held_ints Hd1.out (by assumption)) (by omega) (by omega) hc0 HlD.out).mono ?_; rintro e w' ⟨u, rfl, hoL, hb1⟩; obtain ⟨pu, ku, rfl, _, _⟩ := hoL.shape)
        | (go_at_call 39; refine (reduced_any _ (rowsOf r c D) c P _ (OwnII.below hoL (by first | exact Below.refl _ _ | exact (Below.refl _ _).drew)).rd (rowsOf_ok HlD.out Hrg.out) Hpr.out (by rw [rowsOf_length]; omega) (by omega)).mono ?_; rintro e w' ⟨v, L, q, rfl, hoR, hb1, hR1, hR2, hR3, hR4, hR5⟩; obtain ⟨pv, kv, rfl, hkv1, hkv2⟩ := hoR.shape; unfold maxLen at hkv2))
    have hbw := held_below (by assumption)
    have hnk : HasRank P c r (mf c fun t => D.getD t 0) L.length := ⟨_, _, hR2, hR3, fun i j hi hj => (hR1 i hi).2 j, rows_flat.trans hR4⟩
    rw [rowsOf_length] at hR5
    have Hnk := Lib.hid hnk
    have Hbw := Lib.hid (Hb1.out.trans (Below.mono hbw Hb1.out.size))
    go_wp2_with fail
    go_ret
    refine ⟨_, rfl, ?_, Hbw.out⟩
    unfold RkIs
    rw [if_pos H1.out]
    exact ⟨L.length, rfl, by omega, Hnk.out⟩


theorem implRankOf_any (P R C : Int) (d : Value) (D : List Int) (w : World) (hd : Ints w d D) :
    Calls Try.prog 37 #[.agg #[.int .i64 P, .int .i64 R, .int .i64 C, d]] w fun e w' =>
      e = .returned (.int .i64 (Classical.epsilon (RkIs P R C D))) ∧ Below w.heap.size w w' :=
  (implRankOf_ex P R C d D w hd).mono fun e w' ⟨r, h1, h2, h3⟩ => ⟨by rw [h1, h2.eps], h3⟩

end Go.Proofs.Ytpfefjdefopccaa
