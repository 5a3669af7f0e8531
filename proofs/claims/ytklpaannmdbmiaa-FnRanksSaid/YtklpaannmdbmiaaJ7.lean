/-
  impl.reduced, walked.
  The reference's product of matrices.
  The rank, on both sides.
  FlagOk, on both sides.
  The rank of one row more (plain law; no program in sight).
  FlagOk, as a property.
-/
import Derived.Test.YtklpaannmdbmiaaJ6
import Derived.Test.YtklpaannmdbmiaaJ3
namespace Go.Proofs.Ytklpaannmdbmiaa
set_option linter.all false
open Go.RowKit

theorem Red.piv {p : Int} {C : Nat} {out : List (List Int)} {q : Nat → Nat} (hr : Red p C out.length (mt out) q) (ho : RowsOk p C out) {i : Nat} (hi : i < out.length) : pivL (out.getD i []) = q i := by
  refine pivL_at (by rw [(ho i hi).1]; exact hr.lt i hi) ?_ fun j hj => hr.lead i j hi hj
  have := hr.unit i i hi hi
  rw [if_pos rfl] at this
  unfold mt at this
  rw [this]; decide
theorem OwnI.shapeC {T : TypeId} {w : World} {lo hi C : Nat} {v : Value} {xs : List Int} (h : OwnI T w lo hi v xs) (hl : xs.length = C) : ∃ p cap, v = .slice p C cap ∧ C ≤ cap ∧ cap ≤ maxLen := by
  subst hl; exact h.shape
theorem OwnI.shapeC' {T : TypeId} {w : World} {lo hi C : Nat} {v : Value} {xs : List Int} (h : OwnI T w lo hi v xs) (hl : xs.length = C) : ∃ p cap, v = .slice p C cap ∧ C ≤ cap ∧ cap ≤ maxLen := h.shapeC hl
theorem Ints.shapeC {w : World} {C : Nat} {v : Value} {xs : List Int} (h : Ints w v xs) (hl : xs.length = C) : ∃ p cap, v = .slice p C cap ∧ C ≤ cap ∧ cap ≤ maxLen := by
  subst hl
  obtain ⟨p, cap, e, ⟨h1, h2⟩, _⟩ := h
  exact ⟨p, cap, e, h1, h2⟩
theorem OwnF.cut {T : TypeId} {w : World} {lo hi C : Nat} {v : Value} {f : Nat → Value} {n : Nat} (h : OwnF w lo hi T v n f) (hl : n = C) : OwnF w lo hi T v C f := hl ▸ h

/-- one row of a list of lists has got other numbers -/
theorem rows_set {Ts Ti : TypeId} {w w' : World} {lo hi n i : Nat} {v : Value} {f : Nat → Value} {R : Nat → List Int} {new : List Int} (g1 : OwnF w lo hi Ts v n f) (g2 : ∀ j, j < n → OwnI Ti w lo hi (f j) (R j))
    (g3 : ∀ a b, a < b → b < n → ∀ k, (f a).ownBlock = some k → (f b).ownBlock ≠ some k) (hi' : i < n) (hg : w.grownBy w' (f i).ownBlock) (hT : Ts ≠ Ti) (hnew : OwnI Ti w' lo hi (f i) new) :
    OwnF w' lo hi Ts v n f ∧ ∀ j, j < n → OwnI Ti w' lo hi (f j) (if j = i then new else R j) := by
  refine ⟨g1.grown hg fun k hk e => own_types g1 (g2 i hi') hT hk e, fun j hj => ?_⟩
  by_cases e : j = i
  · subst e; rw [if_pos rfl]; exact hnew
  · rw [if_neg e]
    have hy := g2 j hj
    refine ⟨ownsRow_of_block hy.1 fun k hk => hg.block k (Own.block hy hk).2.2 fun e2 => ?_, hy.2⟩
    rcases Nat.lt_or_gt_of_ne e with h | h
    · exact g3 j i h hi' k hk e2.symm
    · exact g3 i j h hj k e2.symm hk

/-- the rows in the order of their columns -/
theorem red_sorted {p : Int} {C : Nat} {out : List (List Int)} {q τ : Nat → Nat} (hr : Red p C out.length (mt out) q) (ho : RowsOk p C out) (hτ : Sorted out τ) :
    RowsOk p C (reL out τ) ∧ Red p C (reL out τ).length (mt (reL out τ)) (fun i => q (τ i)) ∧ (∀ i k, i < k → k < (reL out τ).length → q (τ i) < q (τ k)) ∧ SameSp p C out.length (mt out) (reL out τ).length (mt (reL out τ)) := by
  obtain ⟨h1, h2, h3, h4⟩ := hτ
  have hm : ∀ i, i < out.length → mt (reL out τ) i = mt out (τ i) := fun i hi => by
    funext j
    unfold mt
    rw [reL_getD hi]
  have hinj : ∀ i k, i < out.length → k < out.length → q i = q k → i = k := fun i k hi hk e => by
    have a := hr.unit i k hi hk
    rw [← e, hr.unit i i hi hi, if_pos rfl] at a
    by_cases e2 : i = k
    · exact e2
    · rw [if_neg e2] at a; cases a
  rw [reL_length]
  refine ⟨fun i hi => ?_, ⟨fun i hi => hr.lt _ (h1 i hi), fun i k hi hk => ?_, fun i j hi hj => ?_⟩, fun i k hik hk => ?_, ?_⟩
  · rw [reL_length] at hi
    rw [reL_getD hi]; exact ho _ (h1 i hi)
  · rw [hm i hi, hr.unit _ _ (h1 i hi) (h1 k hk)]
    by_cases e : i = k
    · subst e; simp
    · rw [if_neg e, if_neg fun e2 => e (h2 i k hi hk e2)]
  · rw [hm i hi]; exact hr.lead _ j (h1 i hi) hj
  · have a := h4 i k hik hk
    rw [hr.piv ho (h1 i (by omega)), hr.piv ho (h1 k hk)] at a
    have b : q (τ i) ≠ q (τ k) := fun e => by
      have := h2 i k (by omega) hk (hinj _ _ (h1 i (by omega)) (h1 k hk) e)
      omega
    omega
  · refine SameSp.perm (fun j => if h : j < out.length then (h3 j h).choose else 0) τ (fun j hj => ?_) fun i hi => ⟨h1 i hi, by rw [hm i hi]; exact .refl _ _ _⟩
    simp only [hj, dif_pos]
    obtain ⟨a, b⟩ := (h3 j hj).choose_spec
    exact ⟨a, by rw [hm _ a, b]; exact .refl _ _ _⟩

/-- what impl.reduced returns: the reduced form of what the rows span -/
def RetRed (w : World) (p : Int) (C : Nat) (src : List (List Int)) (e : Ending) (w' : World) : Prop :=
  ∃ (u : Value) (L : List (List Int)) (q : Nat → Nat), e = .returned u ∧ OwnII 24 3 w' w.heap.size w'.heap.size u L ∧ Below w.heap.size w w' ∧ RowsOk p C L ∧ Red p C L.length (mt L) q ∧
    (∀ i k, i < k → k < L.length → q i < q k) ∧ SameSp p C src.length (mt src) L.length (mt L) ∧ L.length ≤ src.length

set_option maxRecDepth 100000 in
set_option maxHeartbeats 4000000 in
theorem reduced_any (v : Value) (rows : List (List Int)) (C : Nat) (p : Int) (w : World) (h : RdII w v rows) (hok : RowsOk p C rows) (hp : primeOk p = true) (hn : rows.length ≤ 100) (hC : C ≤ 100) :
    Calls Try.prog 31 #[v, .int .i64 p] w (RetRed w p C rows) := by
  obtain ⟨f, ⟨p0, cap, rfl, ⟨hx1, hx⟩, hxc⟩, hf⟩ := h
  unfold maxLen at hx
  obtain ⟨hp2, hp7⟩ := primeOk_range hp
  have Hf := Lib.hid hf
  have Hok := Lib.hid hok
  have Hp := Lib.hid hp
  clear hf hok hp
  go_enter Try.func31, Try.ntmps31
  go_wp2_with fail
  go_loopg [5, 17] rows.length (fun g s5 i wr => ∃ (k : Nat) (out : List (List Int)) (q : Nat → Nat), k ≤ rows.length ∧ g = rows.length - k ∧ i = .int .i64 k ∧ Below w.heap.size w wr ∧ out.length ≤ k ∧
    Hid (RowsOk p C out) ∧ Hid (Red p C out.length (mt out) q) ∧ Hid (SameSp p C k (mt rows) out.length (mt out)) ∧ Hid (OwnII 24 3 wr w.heap.size wr.heap.size s5 out))
  case atStart =>
    refine ⟨0, [], fun _ => 0, Nat.zero_le _, rfl, rfl, below_alloc _ _, Nat.le_refl _, fun i hi => absurd hi (by simp), ⟨fun i hi => absurd hi (by simp), fun i k hi => absurd hi (by simp), fun i j hi => absurd hi (by simp)⟩,
      ⟨fun i hi => absurd hi (Nat.not_lt_zero _), fun i hi => absurd hi (by simp)⟩, ⟨fun _ => undef, (OwnF.made0 w _ _).mono (Nat.le_refl _) (by simp), fun i hi => absurd hi (by simp), fun i j _ hj => absurd hj (by simp)⟩⟩
  case round =>
    obtain ⟨k, out, q, hk, rfl, rfl, hb, hnk, hro, hrd, hss, ho⟩ := hrel
    obtain ⟨wo, rfl⟩ : ∃ x : World, x = wr := ⟨_, rfl⟩
    obtain ⟨F, g1, g2, g3⟩ := ho.out
    obtain ⟨p5, k5, rfl, hn5, hk5, _⟩ := g1.shape
    unfold maxLen at hk5
    by_cases hlt : k < rows.length
    · obtain ⟨b, off, rfl, hc⟩ := hxc (by omega)
      have c1 := cell_below hb (hc k hlt)
      have hrk := Hok.out k hlt
      have I1 := Lib.hid ((Hf.out k hlt).below hb)
      obtain ⟨p1, k1, e1, hn1, hk1⟩ := (Hf.out k hlt).shapeC hrk.1
      unfold maxLen at hk1
      obtain ⟨r, hr⟩ : ∃ r, r = rows.getD k [] := ⟨_, rfl⟩
      rw [← hr] at hrk I1
      have Hrk := Lib.hid hrk
      have Hr := Lib.hid hr
      rw [e1] at c1 I1
      have G1 := Lib.hid g1
      have G2 := Lib.hid g2
      have G3 := Lib.hid g3
      have hrl := hrk.1
      have Hb := Lib.hid hb
      clear hc e1 hr hrk ho g1 g2 g3
      go_wp2_with fail
      refine (clone_any _ r _ I1.out (by omega)).mono ?_
      rintro e wc ⟨u, rfl, ho2, hb2⟩
      have hs2 := hb2.size
      obtain ⟨p2, k2, rfl, hn2, hk2⟩ := ho2.shapeC hrl
      unfold maxLen at hk2
      have Ho2 := Lib.hid ho2
      have Hb2 := Lib.hid hb2
      have Hrl := Lib.hid hrl
      clear ho2 hb2 hrl c1
      go_wp2_with fail
      go_loopg [10, 25] out.length (fun g s10 i wx => ∃ (t : Nat) (cur : List Int), t ≤ out.length ∧ g = out.length - t ∧ i = .int .i64 t ∧ Hid (Below wo.heap.size wo wx) ∧ wc.heap.size ≤ wx.heap.size ∧
        Hid (OwnI 3 wx wo.heap.size wc.heap.size (.slice p2 C k2) cur) ∧ Hid (El p C out q r cur t))
      case atStart => exact ⟨0, r, Nat.zero_le _, rfl, rfl, Hb2.out, Nat.le_refl _, Ho2.out, El.start Hrk.out⟩
      case round =>
        obtain ⟨t, cur, ht, rfl, rfl, hbx, hsx, hox, hel⟩ := hrel
        by_cases htl : t < out.length
        · obtain ⟨wx, rfl⟩ : ∃ x : World, x = wr := ⟨_, rfl⟩
          obtain ⟨g5, rfl, _, _, _⟩ := G1.out.at_ (by omega)
          have c5 := (G1.out.below hbx.out).cell htl
          have hrt := hro.out t htl
          have hIt := (G2.out t htl).below hbx.out
          obtain ⟨pt, kt, et, hnt, hkt⟩ := hIt.shapeC' hrt.1
          unfold maxLen at hkt
          rw [et] at c5 hIt
          have hqt := hrd.out.lt t htl
          have hpv := pivot_any _ _ wx hIt.ints
          rw [hrd.out.piv hro.out htl] at hpv
          have hcl := hel.out.ok.1
          have hox1 := hox.out.fn.cut hcl
          obtain ⟨g2, rfl, hg2a, hg2b, hg2c⟩ := hox1.at_ (by omega)
          have c2 := hox1.cell hqt
          obtain ⟨y, hy⟩ : ∃ y, y = cur.getD (q t) 0 := ⟨_, rfl⟩
          have hyr := hel.out.ok.2 (q t)
          rw [← hy] at hyr
          unfold iv at c2
          rw [← hy] at c2
          have hne : ∀ b, (Value.slice (some ⟨g2, 0, none⟩) C k2).ownBlock = some b → (Value.slice pt C kt).ownBlock ≠ some b := fun b hb e => by
            have h1 := Own.block hIt e
            have h2 := Own.block hox.out hb
            have h3 := h1.2.1
            have h4 := h2.1
            omega
          obtain ⟨Q, hQ⟩ : ∃ Q, Q = q t := ⟨_, rfl⟩
          rw [← hQ] at hqt hpv c2
          have Hst := Lib.hid (hel.out.step hp2 hrd.out htl)
          have Hpv := Lib.hid hpv
          have C2 := Lib.hid c2
          have HIt := Lib.hid hIt
          have Hox := Lib.hid hox.out
          have Hcur := Lib.hid hel.out.ok
          have Hrt := Lib.hid hrt
          have Hne := Lib.hid hne
          have Hy := Lib.hid hy
          have HQ := Lib.hid hQ
          clear hpv c2 hIt hox hox1 hel hrt hne hy et hQ
          go_wp2_with fail
          refine Hpv.out.mono ?_
          rintro e wy ⟨rfl, hq⟩
          have c2 := hq.cell C2.out
          have Hq := Lib.hid hq
          clear hq
          go_wp2_with fail
          refine (addRow_any _ _ cur (out.getD t []) (p - y) p wo.heap.size wc.heap.size _ (Hox.out.below (Hq.out.below _)) (HIt.out.ints.qt Hq.out) Hne.out (by rw [hcl, Hrt.out.1]; exact Nat.le_refl _) (Hcur.out.small hp7) (Hrt.out.small hp7) (by omega) (by omega)).mono ?_
          rintro e wz ⟨rfl, hoz, hgz⟩
          have Hoz := Lib.hid hoz
          have Hgz := Lib.hid (grown_qt Hq.out hgz)
          clear hoz hgz c2 c5
          go_wp2_with fail
          go_roundg (out.length - (t + 1))
          case measure => omega
          case rel =>
            have hst := Hst.out
            rw [← Hy.out] at hst
            have hsz := Hgz.out.size
            refine ⟨t + 1, _, by omega, rfl, by go_num, hbx.out.trans (grownBy_below Hgz.out Hox.out.fn.blocks (Nat.le_refl _) hbx.out.size), by omega, Hoz.out, hst⟩
        · obtain rfl : t = out.length := by omega
          have hcl := hel.out.ok.1
          have hpv := pivot_any _ _ wr hox.out.ints
          rcases pivL_cases cur with ⟨hp1, h0⟩ | ⟨K, hp1, hK, hKn, hK0⟩
          · rw [hp1] at hpv
            have Hpv := Lib.hid hpv
            have Hnew := Lib.hid (hel.out.none h0)
            clear hpv h0 hel
            go_wp2_with fail
            refine Hpv.out.mono ?_
            rintro e wy ⟨rfl, hq⟩
            have Hq := Lib.hid hq
            clear hq
            go_wp2_with fail
            go_roundg (rows.length - (k + 1))
            case measure => omega
            case rel =>
              have hbw : Below wo.heap.size wo wy := hbx.out.trans (Hq.out.below _)
              have hsz := hbw.size
              have hsb := Hb.out.size
              refine ⟨k + 1, out, q, by omega, rfl, by go_num, Hb.out.trans (hbw.mono hsb), by omega, hro.out, hrd.out, ?_, ?_⟩
              · refine (SameSp.snoc (M'' := mt (out ++ [r])) hss.out ?_ fun i hi => by rw [mt_snoc_lt hi]; exact .refl _ _ _).trans Hnew.out
                rw [mt_snoc_at, Hr.out]; exact .refl _ _ _
              · exact OwnII.mono (OwnII.below ⟨F, G1.out, G2.out, G3.out⟩ hbw) (Nat.le_refl _) hsz
          · rw [hp1] at hpv
            have Hpv := Lib.hid hpv
            have Hel := Lib.hid hel.out
            have Hox := Lib.hid hox.out
            have HKn := Lib.hid hKn
            have HK0 := Lib.hid hK0
            have Hp1 := Lib.hid hp1
            have hKC : K < C := by omega
            clear hpv hel hox hKn hK0 hp1
            go_wp2_with fail
            refine Hpv.out.mono ?_
            rintro e wy ⟨rfl, hq⟩
            have Hq := Lib.hid hq
            clear hq
            go_wp2_with fail
            refine (scaledTo1_any _ cur p K wo.heap.size wc.heap.size _ (Hox.out.below (Hq.out.below _)) Hel.out.ok.2 Hp.out Hp1.out hK HKn.out).mono ?_
            rintro e wz ⟨k0, rfl, hka, hkb, hkc, hoz, hgz⟩
            have hmore := Hel.out.more hp2 hrd.out hro.out hKC HK0.out HKn.out hkc
            have hsl : (scaleL p k0 cur).length = C := by rw [scaleL_length]; exact hcl
            have hs1 : pivL (scaleL p k0 cur) = K := pivL_at (by omega) (by rw [scaleL_getD hK, hkc]; decide) fun j hj => by rw [scaleL_getD (by omega), HK0.out j hj, Int.mul_zero]; rfl
            have hsok : RowOk p C (scaleL p k0 cur) := scaleL_ok hp2 hcl
            generalize scaleL p k0 cur = s at *
            have hbz : Below wo.heap.size wo wz := hbx.out.trans ((Hq.out.below _).trans (by have := Hq.out.size; have := hbx.out.size; exact grownBy_below hgz (fun b hb => ⟨(Own.block hoz hb).1, (Own.block hoz hb).2.1⟩) (Nat.le_refl _) (by omega)))
            have hpz := pivot_any _ _ wz hoz.ints
            rw [hs1] at hpz
            have Hpz := Lib.hid hpz
            have Hmore := Lib.hid hmore
            have Hoz := Lib.hid hoz
            have Hbz := Lib.hid hbz
            have Hsok := Lib.hid hsok
            have hsz := hbz.size
            have hcz : wc.heap.size ≤ wz.heap.size := by have := hgz.size; have := Hq.out.size; omega
            clear hpz hmore hoz hbz hgz hkc hs1 hsok
            go_wp2_with fail
            refine Hpz.out.mono ?_
            rintro e ws ⟨rfl, hq⟩
            have hqs := hq.size
            have Hq2 := Lib.hid hq
            clear hq
            go_wp2_with fail
            have hbs : Below wo.heap.size wo ws := Hbz.out.trans (Hq2.out.below _)
            have Hbs := Lib.hid hbs
            have Hos := Lib.hid (Hoz.out.below (Hq2.out.below _))
            clear hbs
            go_loopg [13, 51] out.length (fun g s13 i wx => ∃ t : Nat, t ≤ out.length ∧ g = out.length - t ∧ i = .int .i64 t ∧ Hid (Frm w.heap.size wo.heap.size ws wx) ∧
              Hid (OwnF wx w.heap.size wo.heap.size 24 (.slice p5 out.length k5) out.length F ∧ ∀ i, i < out.length → OwnI 3 wx w.heap.size wo.heap.size (F i) ((clearL p K out s t).getD i [])))
            case atStart => exact ⟨0, Nat.zero_le _, rfl, rfl, Frm.refl _ _ _, G1.out.below Hbs.out, fun i hi => by rw [clearL_zero]; exact (G2.out i hi).below Hbs.out⟩
            case round =>
              obtain ⟨t, ht, rfl, rfl, hfx, hgx⟩ := hrel
              by_cases htl : t < out.length
              · obtain ⟨wx, rfl⟩ : ∃ x : World, x = wr := ⟨_, rfl⟩
                obtain ⟨g5, rfl, _, _, _⟩ := hgx.out.1.at_ (by omega)
                have c5 := hgx.out.1.cell htl
                have hIt := hgx.out.2 t htl
                rw [clearL_getD htl, if_neg (Nat.lt_irrefl t)] at hIt
                have hrt := hro.out t htl
                obtain ⟨pt, kt, et, hnt, hkt⟩ := hIt.shapeC hrt.1
                unfold maxLen at hkt
                rw [et] at c5 hIt
                have hIt1 := hIt.fn.cut hrt.1
                obtain ⟨gt, rfl, _, _, _⟩ := hIt1.at_ (by omega)
                have c2 := hIt1.cell hKC
                obtain ⟨y, hy⟩ : ∃ y, y = (out.getD t []).getD K 0 := ⟨_, rfl⟩
                have hyr := hrt.2 K
                unfold iv at c2
                rw [← hy] at hyr c2
                have hos := Hos.out.frm hfx.out (.inr (Nat.le_refl _))
                have hne : ∀ b, (Value.slice (some ⟨gt, 0, none⟩) C kt).ownBlock = some b → (Value.slice p2 C k2).ownBlock ≠ some b := fun b hb e => by
                  have h1 := Own.block hIt hb
                  have h2 := Own.block hos e
                  have h3 := h1.2.1
                  have h4 := h2.1
                  omega
                have HIt := Lib.hid hIt
                have Hosx := Lib.hid hos
                have Hrt := Lib.hid hrt
                have Hne := Lib.hid hne
                have Hy := Lib.hid hy
                have Het := Lib.hid et
                clear hIt hIt1 hos hrt hne hy et
                go_wp2_with fail
                refine (addRow_any _ _ (out.getD t []) s (p - y) p w.heap.size wo.heap.size _ HIt.out Hosx.out.ints Hne.out (by rw [hsl, Hrt.out.1]; exact Nat.le_refl _) (Hrt.out.small hp7) (Hsok.out.small hp7) (by omega) (by omega)).mono ?_
                rintro e wz2 ⟨rfl, hoz, hgz⟩
                have Hoz2 := Lib.hid hoz
                have Hgz := Lib.hid hgz
                clear hoz hgz c2 c5
                go_wp2_with fail
                go_roundg (out.length - (t + 1))
                case measure => omega
                case rel =>
                  refine ⟨t + 1, by omega, rfl, by go_num, hfx.out.trans (grownBy_frm Hgz.out fun b hb => ⟨(Own.block HIt.out hb).1, (Own.block HIt.out hb).2.1⟩), ?_⟩
                  have hset := rows_set (R := fun i => (clearL p K out s t).getD i []) hgx.out.1 hgx.out.2 G3.out htl (by rw [Het.out]; exact Hgz.out) (by decide) (by rw [Het.out]; exact Hoz2.out)
                  refine ⟨hset.1, fun i hi => ?_⟩
                  have := hset.2 i hi
                  rw [clearL_getD hi]
                  by_cases e : i = t
                  · subst e
                    rw [if_pos rfl] at this
                    rw [if_pos (by omega), ← Hy.out]
                    exact this
                  · rw [if_neg e, clearL_getD hi] at this
                    by_cases e2 : i < t
                    · rw [if_pos (by omega)]; rwa [if_pos e2] at this
                    · rw [if_neg (by omega)]; rwa [if_neg e2] at this
              · obtain rfl : t = out.length := by omega
                obtain ⟨wx, rfl⟩ : ∃ x : World, x = wr := ⟨_, rfl⟩
                have hos := Hos.out.frm hfx.out (.inr (Nat.le_refl _))
                obtain ⟨out', hout'⟩ : ∃ o, o = clearL p K out s out.length := ⟨_, rfl⟩
                have hmore := Hmore.out
                rw [← hout'] at hmore hgx
                have hlo : out'.length = out.length := by rw [hout', clearL_length]
                have K1 := Lib.hid (hgx.out.1.cut hlo.symm)
                have K2 := Lib.hid (fun i (hi : i < out'.length) => hgx.out.2 i (by omega))
                have K3 := Lib.hid (fun i j (hij : i < j) (hj : j < out'.length) => G3.out i j hij (by omega))
                have Hosx := Lib.hid hos
                have Hmore2 := Lib.hid hmore
                have hsx := hfx.out.size
                have hsb := Hb.out.size
                have Hbd1 := Lib.hid (show out'.length + 1 ≤ maxLen by unfold maxLen; omega)
                have Hbd2 := Lib.hid (show (out'.length + 1) * 24 ≤ 140737488355328 by omega)
                clear hos hmore hgx hout'
                go_wp2_with (at_builtin; go_must (refine wpList_append_F rfl (.tmp 66) (.tmp 68) 51 rfl 24 (.slice none 0 0) 24 Try.underlying51 info_sl rfl w.heap.size wo.heap.size _ out'.length F rfl (K1.out.below (below_alloc _ _)) (by simp; omega) (by simp; omega) _ _ _ rfl (rd_one _ _ _ rfl) (fun j _ => rfl) Hbd1.out Hbd2.out ?_; intro v' w' ho' hg'))
                have hsw' := hg'.size
                simp only [size_alloc] at hsw'
                have hbw : Below w.heap.size w w' := Hb.out.trans ((Hbs.out.mono hsb).trans ((hfx.out.below (Nat.le_refl _) (by omega)).trans (((below_alloc wx _).mono (by omega)).trans (grownBy_below hg' K1.out.blocks (Nat.le_refl _) (by simp; omega)))))
                go_roundg (rows.length - (k + 1))
                case measure => omega
                case rel =>
                  have e3 : (out' ++ [s]).length = out.length + 1 := by simp [hlo]
                  refine ⟨k + 1, out' ++ [s], _, by omega, rfl, by go_num, hbw, by omega, Hmore2.out.2.1, by rw [e3]; exact Hmore2.out.1, ?_, ?_⟩
                  · rw [e3]
                    refine (SameSp.snoc (M'' := mt (out ++ [r])) hss.out ?_ fun i hi => by rw [mt_snoc_lt hi]; exact .refl _ _ _).trans Hmore2.out.2.2
                    rw [mt_snoc_at, Hr.out]; exact .refl _ _ _
                  · exact OwnII.snoc (K1.out.below (below_alloc _ _)) (fun i hi => (K2.out i hi).below (below_alloc _ _)) K3.out ((Hosx.out.mono (Nat.le_refl _) (show wc.heap.size ≤ w'.heap.size by omega)).below (below_alloc _ _)) hsb (by omega) (by decide) hg' (Nat.le_refl _) ho'
    · obtain rfl : k = rows.length := by omega
      clear g1 g2 g3 hxc
      go_wp2_with fail
      refine (sortRows_any _ out w.heap.size wo.heap.size _ ho.out (by omega) (fun i hi => by have := (hro.out i hi).1; omega) (Nat.le_refl _)).mono ?_
      rintro e w2 ⟨rfl, τ, hτ, ho2, hf2⟩
      have Ho2 := Lib.hid ho2
      have Hf2 := Lib.hid hf2
      have Hτ := Lib.hid hτ
      clear ho2 hf2 hτ
      go_wp2_with fail
      go_ret
      have hs := hb.size
      have hz := Hf2.out.size
      obtain ⟨t1, t2, t3, t4⟩ := red_sorted hrd.out hro.out Hτ.out
      exact ⟨_, reL out τ, fun i => q (τ i), rfl, Ho2.out.mono (Nat.le_refl _) hz, hb.trans (Hf2.out.below (Nat.le_refl _) hs), t1, t2, t3, hss.out.trans t4, by rw [reL_length]; exact hnk⟩

end Go.Proofs.Ytklpaannmdbmiaa

namespace Go.Proofs.Ytklpaannmdbmiaa
set_option linter.all false
open Go.RowKit

/-- f 0 + .. + f (n-1) -/
def sumTo : Nat → (Nat → Int) → Int
  | 0, _ => 0
  | n + 1, f => sumTo n f + f n

theorem sumTo_bound {f : Nat → Int} {B : Int} : ∀ (n : Nat), (∀ i, i < n → 0 ≤ f i ∧ f i ≤ B) → 0 ≤ sumTo n f ∧ sumTo n f ≤ B * (n : Int)
  | 0, _ => by simp [sumTo]
  | n + 1, h => by
    have h1 := sumTo_bound n (fun i hi => h i (by omega))
    have h2 := h n (by omega)
    have e : B * ((n + 1 : Nat) : Int) = B * (n : Int) + B := by rw [Int.natCast_add, Int.mul_add]; simp
    simp only [sumTo]
    rw [e]
    omega

/-- the number at row i, column j of the product -/
def mulAt (Ca Cb : Nat) (A B : List Int) (i j : Nat) : Int := sumTo Ca fun k => A.getD (i * Ca + k) 0 * B.getD (k * Cb + j) 0
def mulRows (P : Int) (Ra Ca Cb : Nat) (A B : List Int) : List (List Int) := (List.range Ra).map fun i => (List.range Cb).map fun j => mulAt Ca Cb A B i j % P

theorem mulRows_length (P : Int) (Ra Ca Cb : Nat) (A B : List Int) : (mulRows P Ra Ca Cb A B).length = Ra := by simp [mulRows]
theorem mulRows_each (P : Int) (Ra Ca Cb : Nat) (A B : List Int) : ∀ r ∈ mulRows P Ra Ca Cb A B, r.length = Cb := by
  intro r hr
  simp only [mulRows, List.mem_map, List.mem_range] at hr
  obtain ⟨i, hi, rfl⟩ := hr
  simp
theorem mulRows_flat_length (P : Int) (Ra Ca Cb : Nat) (A B : List Int) : (mulRows P Ra Ca Cb A B).flatten.length = Ra * Cb := by
  rw [flat_length (mulRows_each P Ra Ca Cb A B), mulRows_length]
theorem mulRows_flat_getD {P : Int} {Ra Ca Cb : Nat} {A B : List Int} {t : Nat} (h : t < Ra * Cb) : (mulRows P Ra Ca Cb A B).flatten.getD t 0 = mulAt Ca Cb A B (t / Cb) (t % Cb) % P := by
  have hC : 0 < Cb := by
    rcases Nat.eq_zero_or_pos Cb with h0 | h0
    · rw [h0] at h; omega
    · exact h0
  have hd : t / Cb < Ra := Nat.div_lt_of_lt_mul (by rwa [Nat.mul_comm])
  have hm : t % Cb < Cb := Nat.mod_lt _ hC
  rw [flat_getD hC (mulRows_each P Ra Ca Cb A B)]
  simp [mulRows, List.getD_eq_getElem?_getD, hd, hm]

/-- the product, if there is one -/
def mulFits (a b : Mx) : Bool := mxOk a.P a.R a.C a.D && mxOk b.P b.R b.C b.D && decide (a.P = b.P) && decide (a.C = b.R)
def mulMx (a b : Mx) : Mx := if mulFits a b then ⟨a.P, a.R, b.C, (mulRows a.P a.R.toNat a.C.toNat b.C.toNat a.D b.D).flatten⟩ else mxZero

theorem implMatrixOk_b (P R C : Int) (d : Value) (D : List Int) (b : Bool) (hb : mxOk P R C D = b) (w : World) (h : Ints w d D) :
    Calls Try.prog 29 #[.agg #[.int .i64 P, .int .i64 R, .int .i64 C, d]] w fun e w' => e = .returned (.bool b) ∧ Below w.heap.size w w' := hb ▸ implMatrixOk_any P R C d D w h

theorem mulFits_no1 {a b : Mx} (h : mxOk a.P a.R a.C a.D = false) : mulFits a b = false := by simp [mulFits, h]
theorem mulFits_no2 {a b : Mx} (h : mxOk b.P b.R b.C b.D = false) : mulFits a b = false := by simp [mulFits, h]
theorem mulFits_no3 {a b : Mx} (h : a.P ≠ b.P) : mulFits a b = false := by simp [mulFits, h]
theorem mulFits_no4 {a b : Mx} (h : a.C ≠ b.R) : mulFits a b = false := by simp [mulFits, h]
theorem mulMx_no {a b : Mx} (h : mulFits a b = false) : mulMx a b = mxZero := by simp [mulMx, h]

/-- what a matrix that is right says of its numbers -/
theorem mxOk_facts {P R C : Int} {D : List Int} (h : mxOk P R C D = true) : ∃ r c : Nat, R = r ∧ C = c ∧ r ≤ 7 ∧ 1 ≤ c ∧ c ≤ 7 ∧ D.length = r * c ∧ (∀ x ∈ D, 0 ≤ x ∧ x < P) ∧ 2 ≤ P ∧ P ≤ 7 ∧ primeOk P = true := by
  obtain ⟨h1, ⟨h2, h3⟩, ⟨h4, h5⟩, h6, h7⟩ := of_decide_eq_true h
  obtain ⟨r, rfl⟩ := Int.eq_ofNat_of_zero_le h2
  obtain ⟨c, rfl⟩ := Int.eq_ofNat_of_zero_le (show (0 : Int) ≤ C by omega)
  have := primeOk_range h1
  refine ⟨r, c, rfl, rfl, by omega, by omega, by omega, ?_, h7, this.1, this.2, h1⟩
  rw [← Int.natCast_mul] at h6
  exact Int.ofNat.inj h6

/-- the two boxes of the arguments and the block of the result, as the walks of functions of two matrices meet them -/
def Boxes3 (w : World) (T Tz : TypeId) (a b : Mx) (da db : Value) (wr : World) : Prop :=
  wr.heap[w.heap.size]? = some (.cells #[.int .i64 a.P, .int .i64 a.R, .int .i64 a.C, da] T (0, 0)) ∧
  wr.heap[w.heap.size + 1]? = some (.cells #[.int .i64 b.P, .int .i64 b.R, .int .i64 b.C, db] T (0, 0)) ∧
  wr.heap[w.heap.size + 1 + 1]? = some (.cells #[.int .i64 0, .int .i64 0, .int .i64 0, .slice none 0 0] Tz (0, 0)) ∧ Below w.heap.size w wr

theorem boxes3_start (w : World) (T Tz : TypeId) (a b : Mx) (da db : Value) : Boxes3 w T Tz a b da db
    (((w.alloc (.cells #[.int .i64 a.P, .int .i64 a.R, .int .i64 a.C, da] T)).alloc (.cells #[.int .i64 b.P, .int .i64 b.R, .int .i64 b.C, db] T)).alloc (.cells #[.int .i64 0, .int .i64 0, .int .i64 0, .slice none 0 0] Tz)) := by
  refine ⟨?_, ?_, ?_, below_alloc3 _ _ _ _⟩
  · rw [heap_alloc_low _ _ (by simp; omega), heap_alloc_low _ _ (by simp)]; exact heap_alloc_top _ _
  · rw [heap_alloc_low _ _ (by simp)]; exact heap_alloc_at _ _ (by simp)
  · exact heap_alloc_at _ _ (by simp)
theorem Boxes3.later {w : World} {T Tz : TypeId} {a b : Mx} {da db : Value} {wr wx : World} (h : Boxes3 w T Tz a b da db wr) (hb : Below wr.heap.size wr wx) : Boxes3 w T Tz a b da db wx :=
  ⟨blk_later h.1 hb, blk_later h.2.1 hb, blk_later h.2.2.1 hb, h.2.2.2.trans (hb.mono h.2.2.2.size)⟩

/-- what holds in the loops of the product: the first T numbers of it are laid -/
def MulI (w : World) (M Ti : TypeId) (a b : Mx) (da db : Value) (ra ca cb q g N T : Nat) (wr : World) : Prop :=
  Boxes3 w M M a b da db wr ∧ wr.heap[q]? = some (.cells #[.int .i64 a.P, .int .i64 (ra : Int), .int .i64 (cb : Int), .slice (some ⟨g, 0, none⟩) N N] M (0, 0)) ∧
  wr.rowIs g Ti N (fun t => .int .i64 (if t < T then mulAt ca cb a.D b.D (t / cb) (t % cb) % a.P else 0))

theorem MulI.later {w : World} {M Ti : TypeId} {a b : Mx} {da db : Value} {ra ca cb q g N T : Nat} {wr wx : World} (h : MulI w M Ti a b da db ra ca cb q g N T wr) (hb : Below wr.heap.size wr wx) : MulI w M Ti a b da db ra ca cb q g N T wx :=
  ⟨h.1.later hb, blk_later h.2.1 hb, h.2.2.of_block (hb.block _ h.2.2.lt)⟩
theorem MulI.set {w : World} {M Ti : TypeId} {a b : Mx} {da db : Value} {ra ca cb q g N T i j : Nat} {wr : World} (h : MulI w M Ti a b da db ra ca cb q g N T wr) (hq : q ≠ g) (hg : w.heap.size + 1 + 1 < g) (hj : j < cb) (hT : T = i * cb + j)
    (x : Int) (hx : x = mulAt ca cb a.D b.D i j % a.P) : MulI w M Ti a b da db ra ca cb q g N (T + 1) (wr.setCell ⟨g, T, none⟩ (.int .i64 x)) := by
  obtain ⟨⟨h1, h2, h3, h4⟩, h5, h6⟩ := h
  refine ⟨⟨?_, ?_, ?_, h4.setCell (by show w.heap.size ≤ g; omega) _⟩, ?_, (h6.set T _).congr fun t ht => ?_⟩
  · rw [Below.heap_setCell _ _ _ _ (by show _ ≠ g; omega)]; exact h1
  · rw [Below.heap_setCell _ _ _ _ (by show _ ≠ g; omega)]; exact h2
  · rw [Below.heap_setCell _ _ _ _ (by show _ ≠ g; omega)]; exact h3
  · rw [Below.heap_setCell _ _ _ _ (by show _ ≠ g; omega)]; exact h5
  · obtain ⟨e1, e2⟩ := div_at (k := i) hj
    by_cases e : t = T
    · subst e; simp only [if_true, show t < t + 1 by omega]; rw [hT, e1, e2, hx]
    · simp only [e, if_false]
      by_cases e3 : t < T
      · simp only [e3, if_true, show t < T + 1 by omega]
      · simp only [e3, if_false, show ¬ t < T + 1 by omega]

theorem mulMx_len (a b : Mx) : (mulMx a b).D.length ≤ 1000000 := by
  unfold mulMx
  split
  · rename_i h
    unfold mulFits at h
    simp only [Bool.and_eq_true] at h
    obtain ⟨ra, ca, e1, e2, h1, _, h2, _⟩ := mxOk_facts h.1.1.1
    obtain ⟨rb, cb, e3, e4, h3, _, h4, _⟩ := mxOk_facts h.1.1.2
    show (mulRows _ _ _ _ _ _).flatten.length ≤ _
    rw [mulRows_flat_length, e1, e4]
    have := Nat.mul_le_mul h1 h4
    simp only [Int.toNat_natCast]
    omega
  · simp [mxZero]

end Go.Proofs.Ytklpaannmdbmiaa

namespace Go.Proofs.Ytklpaannmdbmiaa
set_option linter.all false
open Go.RowKit

/-- the reduced form of what R rows span: n rows M with the columns q -/
def IsRed (P : Int) (C R : Nat) (M0 : Nat → Nat → Int) (n : Nat) (M : Nat → Nat → Int) (q : Nat → Nat) : Prop :=
  Red P C n M q ∧ (∀ i k, i < k → k < n → q i < q k) ∧ (∀ i c, i < n → c < C → 0 ≤ M i c ∧ M i c < P) ∧ SameSp P C R M0 n M
theorem IsRed.one {P : Int} {C R n n' : Nat} {M0 M M' : Nat → Nat → Int} {q q' : Nat → Nat} (hP : 2 ≤ P) (h : IsRed P C R M0 n M q) (h' : IsRed P C R M0 n' M' q') :
    n = n' ∧ (∀ i, i < n → q i = q' i) ∧ ∀ i j, i < n → j < C → M i j = M' i j :=
  red_unique hP h.1 h'.1 h.2.1 h'.2.1 (h.2.2.2.symm.trans h'.2.2.2) h.2.2.1 h'.2.2.1
def HasRank (P : Int) (C R : Nat) (M0 : Nat → Nat → Int) (n : Nat) : Prop := ∃ M q, IsRed P C R M0 n M q
theorem HasRank.one {P : Int} {C R n n' : Nat} {M0 : Nat → Nat → Int} (hP : 2 ≤ P) (h : HasRank P C R M0 n) (h' : HasRank P C R M0 n') : n = n' := by
  obtain ⟨M, q, h⟩ := h
  obtain ⟨M', q', h'⟩ := h'
  exact (h.one hP h').1
/-- from rows of lists to what lies flat -/
theorem rows_flat {P : Int} {C R : Nat} {D : List Int} : SameSp P C R (mf C fun t => D.getD t 0) (rowsOf R C D).length (mt (rowsOf R C D)) := by
  rw [rowsOf_length]
  refine SameSp.of_eqv fun i hi => .of_eq fun c hc => ?_
  unfold mf mt
  rw [rowsOf_getD hi, rowAt_getD hc]
theorem rowsOf_ok {P : Int} {C R : Nat} {D : List Int} (h : D.length = R * C) (hr : ∀ t, 0 ≤ D.getD t 0 ∧ D.getD t 0 < P) : RowsOk P C (rowsOf R C D) := fun i hi => by
  rw [rowsOf_length] at hi
  have hl : (rowAt C D i).length = C := rowAt_length (by rw [h]; exact mul_le_of hi)
  rw [rowsOf_getD hi]
  refine ⟨hl, fun j => ?_⟩
  by_cases hj : j < C
  · rw [rowAt_getD hj]; exact hr _
  · rw [getD_out (by omega)]
    have := hr 0
    omega

/-- what RankOf returns -/
def RkIs (P R C : Int) (D : List Int) (r : Int) : Prop :=
  if mxOk P R C D = true then ∃ n : Nat, r = n ∧ (n : Int) ≤ R ∧ HasRank P C.toNat R.toNat (mf C.toNat fun t => D.getD t 0) n else r = -1
theorem RkIs.one {P R C : Int} {D : List Int} {r r' : Int} (h : RkIs P R C D r) (h' : RkIs P R C D r') : r = r' := by
  unfold RkIs at h h'
  by_cases e : mxOk P R C D = true
  · rw [if_pos e] at h h'
    obtain ⟨n, rfl, _, h⟩ := h
    obtain ⟨n', rfl, _, h'⟩ := h'
    obtain ⟨_, _, _, _, _, _, _, _, _, hP, _⟩ := mxOk_facts e
    rw [h.one hP h']
  · rw [if_neg e] at h h'
    omega
theorem RkIs.eps {P R C : Int} {D : List Int} {r : Int} (h : RkIs P R C D r) : r = Classical.epsilon (RkIs P R C D) := h.one (Classical.epsilon_spec ⟨r, h⟩)

set_option maxRecDepth 100000 in
set_option maxHeartbeats 1000000 in
theorem implRankOf_ex (P R C : Int) (d : Value) (D : List Int) (w : World) (hd : Ints w d D) :
    Calls Try.prog 12 #[.agg #[.int .i64 P, .int .i64 R, .int .i64 C, d]] w fun e w' => ∃ r, e = .returned (.int .i64 r) ∧ RkIs P R C D r ∧ Below w.heap.size w w' := by
  have Hd := Lib.hid hd
  obtain ⟨p, cap, rfl, ⟨_, mx⟩, _⟩ := hd
  unfold maxLen at mx
  cases h1 : mxOk P R C D with
  | false =>
    have H1 := Lib.hid h1
    clear h1
    go_enter Try.func12, Try.ntmps12
    go_wp2_with fail
    refine (implMatrixOk_b _ _ _ _ _ _ H1.out _ (Hd.out.below (below_alloc _ _))).mono ?_
    rintro e w1 ⟨rfl, hb1⟩
    have Hb1 := Lib.hid ((below_alloc w _).trans (hb1.mono (by simp)))
    clear hb1
    go_wp2_with fail
    go_ret
    exact ⟨_, rfl, by unfold RkIs; rw [H1.out]; rfl, Hb1.out⟩
  | true =>
    obtain ⟨r, c, rfl, rfl, hr, hc0, hc, hlD, hD, hP2, hP7, hpr⟩ := mxOk_facts h1
    have H1 := Lib.hid h1
    have Hrg := Lib.hid (fun t => getD_range hD (by omega) t)
    have HlD := Lib.hid hlD
    have Hpr := Lib.hid hpr
    clear h1 hlD hD hpr
    go_enter Try.func12, Try.ntmps12
    go_wp2_with fail
    refine (implMatrixOk_b _ _ _ _ _ _ H1.out _ (Hd.out.below (below_alloc _ _))).mono ?_
    rintro e w1 ⟨rfl, hb1⟩
    have Z := Lib.hid ((hb1.block _ (by simp)).trans (heap_alloc_top _ _))
    have Hb1 := Lib.hid ((below_alloc w _).trans (hb1.mono (by simp)))
    have Hd1 := Lib.hid (Hd.out.below Hb1.out)
    clear hb1
    obtain ⟨c0, c1, c2, c3, cf, cz⟩ := blk4 Z.out
    go_wp2_with fail
    go_region_held3 (fun w' => (w'.cell? ⟨w.heap.size, 0, none⟩ = some (.int .i64 P) ∧ w'.cell? ⟨w.heap.size, 1, none⟩ = some (.int .i64 (r : Int)) ∧ w'.cell? ⟨w.heap.size, 2, none⟩ = some (.int .i64 (c : Int)) ∧ w'.cell? ⟨w.heap.size, 3, none⟩ = some (.slice p D.length cap)) ∧ Below w1.heap.size w1 w')
      (first | exact ⟨⟨c0, c1, c2, c3⟩, (Below.refl _ _).drew⟩ | exact keep4 hb1 (by assumption))
      (first
        | (go_at_call 30; refine (lines_any P r c _ D _ (held_ints Hd1.out (by assumption)) (by omega) (by omega) hc0 HlD.out).mono ?_; rintro e w' ⟨u, rfl, hoL, hb1⟩; obtain ⟨pu, ku, rfl, _, _⟩ := hoL.shape)
        | (go_at_call 31; refine (reduced_any _ (rowsOf r c D) c P _ (OwnII.below hoL (by first | exact Below.refl _ _ | exact (Below.refl _ _).drew)).rd (rowsOf_ok HlD.out Hrg.out) Hpr.out (by rw [rowsOf_length]; omega) (by omega)).mono ?_; rintro e w' ⟨v, L, q, rfl, hoR, hb1, hR1, hR2, hR3, hR4, hR5⟩; obtain ⟨pv, kv, rfl, hkv1, hkv2⟩ := hoR.shape; unfold maxLen at hkv2))
    have hbw := held_below (by assumption)
    have hnk : HasRank P c r (mf c fun t => D.getD t 0) L.length := ⟨_, _, hR2, hR3, fun i j hi hj => (hR1 i hi).2 j, rows_flat.trans hR4⟩
    rw [rowsOf_length] at hR5
    have Hnk := Lib.hid hnk
    have Hbw := Lib.hid (Hb1.out.trans (Below.mono hbw Hb1.out.size))
    go_wp2_with fail
    go_ret
    refine ⟨_, rfl, ?_, Hbw.out⟩
    unfold RkIs
    rw [if_pos H1.out]
    exact ⟨L.length, rfl, by omega, Hnk.out⟩


theorem implRankOf_any (P R C : Int) (d : Value) (D : List Int) (w : World) (hd : Ints w d D) :
    Calls Try.prog 12 #[.agg #[.int .i64 P, .int .i64 R, .int .i64 C, d]] w fun e w' =>
      e = .returned (.int .i64 (Classical.epsilon (RkIs P R C D))) ∧ Below w.heap.size w w' :=
  (implRankOf_ex P R C d D w hd).mono fun e w' ⟨r, h1, h2, h3⟩ => ⟨by rw [h1, h2.eps], h3⟩

end Go.Proofs.Ytklpaannmdbmiaa

namespace Go.Proofs.Ytklpaannmdbmiaa
set_option linter.all false
open Go.RowKit

/-- what FlagOk returns -/
def FkIs (P R C : Int) (D : List Int) (b : Bool) : Prop := b = true ↔ mxOk P R C D = true ∧ R = C ∧ RkIs P R C D R
theorem FkIs.one {P R C : Int} {D : List Int} {b b' : Bool} (h : FkIs P R C D b) (h' : FkIs P R C D b') : b = b' := by
  unfold FkIs at h h'
  have e : b = true ↔ b' = true := h.trans h'.symm
  cases b <;> cases b' <;> simp_all
theorem FkIs.eps {P R C : Int} {D : List Int} {b : Bool} (h : FkIs P R C D b) : b = Classical.epsilon (FkIs P R C D) := h.one (Classical.epsilon_spec ⟨b, h⟩)
theorem FkIs.no1 {P R C : Int} {D : List Int} (h : mxOk P R C D = false) : FkIs P R C D false := by
  unfold FkIs; simp [h]
theorem FkIs.no2 {P R C : Int} {D : List Int} (h : R ≠ C) : FkIs P R C D false := by
  unfold FkIs; simp [h]
theorem FkIs.yes {P R : Int} {D : List Int} {n : Int} (h : mxOk P R R D = true) (hn : RkIs P R R D n) : FkIs P R R D (n == R) := by
  unfold FkIs
  constructor
  · intro e
    have : n = R := by simpa using e
    subst this
    exact ⟨h, rfl, hn⟩
  · rintro ⟨_, _, hr⟩
    have := hn.one hr
    simpa using this

theorem implRankOf_r (P : Int) (R C : Nat) (d : Value) (D : List Int) (w : World) (hd : Ints w d D) :
    Calls Try.prog 12 #[.agg #[.int .i64 P, .int .i64 (R : Int), .int .i64 (C : Int), d]] w fun e w' => ∃ n, e = .returned (.int .i64 n) ∧ RkIs P R C D n ∧ Below w.heap.size w w' :=
  implRankOf_ex P R C d D w hd

end Go.Proofs.Ytklpaannmdbmiaa

namespace Go.Proofs.Ytklpaannmdbmiaa
set_option linter.all false
open Go.RowKit

/-- the rank is told by what is spanned -/
theorem HasRank.same {P : Int} {C R R' n : Nat} {M0 M1 : Nat → Nat → Int} (h : HasRank P C R M0 n) (hs : SameSp P C R' M1 R M0) : HasRank P C R' M1 n := by
  obtain ⟨M, q, h1, h2, h3, h4⟩ := h
  exact ⟨M, q, h1, h2, h3, hs.trans h4⟩
theorem HasRank.zero (P : Int) (C : Nat) (M0 : Nat → Nat → Int) : HasRank P C 0 M0 0 :=
  ⟨M0, fun i => i, ⟨fun i hi => absurd hi (Nat.not_lt_zero _), fun i k hi => absurd hi (Nat.not_lt_zero _), fun i j hi => absurd hi (Nat.not_lt_zero _)⟩,
    fun i k _ hk => absurd hk (Nat.not_lt_zero _), fun i c hi => absurd hi (Nat.not_lt_zero _), .refl⟩
theorem HasRank.congr {P : Int} {C R n : Nat} {M0 M1 : Nat → Nat → Int} (h : HasRank P C R M0 n) (e : ∀ i j, i < R → j < C → M1 i j = M0 i j) : HasRank P C R M1 n :=
  h.same (SameSp.of_eqv fun i hi => .of_eq fun j hj => e i j hi hj)

/-- an order in which numbers ascend -/
theorem order_ex (n : Nat) (q : Nat → Nat) (hq : ∀ i k, i < n → k < n → q i = q k → i = k) :
    ∃ τ σ : Nat → Nat, (∀ i, i < n → τ i < n) ∧ (∀ i, i < n → σ i < n ∧ τ (σ i) = i) ∧ (∀ i k, i < n → k < n → τ i = τ k → i = k) ∧ ∀ i k, i < k → k < n → q (τ i) < q (τ k) := by
  let le : Nat → Nat → Bool := fun a b => decide (q a ≤ q b)
  let l := (List.range n).mergeSort le
  have hp : l.Perm (List.range n) := List.mergeSort_perm _ _
  have hs : l.Pairwise fun a b => le a b = true := List.pairwise_mergeSort (fun a b c h1 h2 => by simp [le] at *; omega) (fun a b => by simp [le]; omega) _
  have hlen : l.length = n := by rw [hp.length_eq]; simp
  have hnd : l.Nodup := hp.nodup_iff.2 List.nodup_range
  have hget : ∀ i, i < n → l.getD i 0 ∈ l := fun i hi => by
    rw [List.getD_eq_getElem?_getD, List.getElem?_eq_getElem (by omega)]
    exact List.getElem_mem _
  have hlt : ∀ i, i < n → l.getD i 0 < n := fun i hi => by
    have := hp.mem_iff.1 (hget i hi)
    simpa using this
  have hinj : ∀ i k, i < n → k < n → l.getD i 0 = l.getD k 0 → i = k := fun i k hi hk e => by
    rw [List.getD_eq_getElem?_getD, List.getD_eq_getElem?_getD, List.getElem?_eq_getElem (by omega), List.getElem?_eq_getElem (by omega)] at e
    exact (List.getElem_inj hnd).1 (by simpa using e)
  have hsur : ∀ i, i < n → ∃ k, k < n ∧ l.getD k 0 = i := fun i hi => by
    have : i ∈ l := hp.mem_iff.2 (by simpa using hi)
    obtain ⟨k, hk, e⟩ := List.mem_iff_getElem.1 this
    exact ⟨k, by omega, by rw [List.getD_eq_getElem?_getD, List.getElem?_eq_getElem hk, Option.getD_some, e]⟩
  refine ⟨fun i => l.getD i 0, fun i => if h : i < n then Classical.choose (hsur i h) else 0, hlt, fun i hi => ?_, hinj, fun i k hik hk => ?_⟩
  · simp only [hi, dif_pos]
    exact Classical.choose_spec (hsur i hi)
  · have h1 := List.pairwise_iff_getElem.1 hs i k (by omega) (by omega) hik
    have h2 : q (l.getD i 0) ≤ q (l.getD k 0) := by
      rw [List.getD_eq_getElem?_getD, List.getD_eq_getElem?_getD, List.getElem?_eq_getElem (by omega), List.getElem?_eq_getElem (by omega)]
      exact of_decide_eq_true h1
    rcases Nat.lt_or_ge (q (l.getD i 0)) (q (l.getD k 0)) with h | h
    · exact h
    · have := hinj i k (by omega) hk (hq _ _ (hlt i (by omega)) (hlt k hk) (by omega))
      omega

/-- rows with columns of their own, put in order -/
theorem Red.sort {P : Int} {C n : Nat} {M : Nat → Nat → Int} {q : Nat → Nat} (h : Red P C n M q) (hr : ∀ i c, i < n → c < C → 0 ≤ M i c ∧ M i c < P) : ∃ M' q', IsRed P C n M n M' q' := by
  have hinj : ∀ i k, i < n → k < n → q i = q k → i = k := fun i k hi hk e => by
    have a := h.unit i k hi hk
    rw [← e, h.unit i i hi hi, if_pos rfl] at a
    by_cases e2 : i = k
    · exact e2
    · rw [if_neg e2] at a; cases a
  obtain ⟨τ, σ, h1, h2, h3, h4⟩ := order_ex n q hinj
  refine ⟨fun i => M (τ i), fun i => q (τ i), ⟨fun i hi => h.lt _ (h1 i hi), fun i k hi hk => ?_, fun i j hi hj => h.lead _ j (h1 i hi) hj⟩, h4, fun i c hi hc => hr _ c (h1 i hi) hc, ?_⟩
  · rw [h.unit _ _ (h1 i hi) (h1 k hk)]
    by_cases e : i = k
    · subst e; simp
    · rw [if_neg e, if_neg fun e2 => e (h3 i k hi hk e2)]
  · refine SameSp.perm σ τ (fun i hi => ⟨(h2 i hi).1, ?_⟩) (fun i hi => ⟨h1 i hi, .refl _ _ _⟩)
    rw [(h2 i hi).2]; exact .refl _ _ _

theorem El.all {p : Int} {C : Nat} {out : List (List Int)} {q : Nat → Nat} {r : List Int} (hp : 2 ≤ p) (hr : Red p C out.length (mt out) q) (h : RowOk p C r) : ∀ t, t ≤ out.length → ∃ cur, El p C out q r cur t
  | 0, _ => ⟨r, El.start h⟩
  | t + 1, ht => by
    obtain ⟨cur, hc⟩ := El.all hp hr h t (by omega)
    exact ⟨_, hc.step hp hr (by omega)⟩

/-- rows of functions as lists -/
def rowsL (n C : Nat) (M : Nat → Nat → Int) : List (List Int) := (List.range n).map fun i => (List.range C).map (M i)
theorem rowsL_length (n C : Nat) (M : Nat → Nat → Int) : (rowsL n C M).length = n := by simp [rowsL]
theorem rowsL_mt {n C i j : Nat} {M : Nat → Nat → Int} (hi : i < n) (hj : j < C) : mt (rowsL n C M) i j = M i j := by
  simp [mt, rowsL, List.getD_eq_getElem?_getD, hi, hj]
theorem rowL_ok {P : Int} {C : Nat} {r : Nat → Int} (hP : 0 < P) (hr : ∀ j, j < C → 0 ≤ r j ∧ r j < P) : RowOk P C ((List.range C).map r) := by
  refine ⟨by simp, fun j => ?_⟩
  by_cases hj : j < C
  · simpa [List.getD_eq_getElem?_getD, hj] using hr j hj
  · rw [getD_out (by simp; omega)]; omega
theorem rowsL_ok {P : Int} {n C : Nat} {M : Nat → Nat → Int} (hP : 0 < P) (hr : ∀ i j, i < n → j < C → 0 ≤ M i j ∧ M i j < P) : RowsOk P C (rowsL n C M) := fun i hi => by
  rw [rowsL_length] at hi
  have e : (rowsL n C M).getD i [] = (List.range C).map (M i) := by simp [rowsL, List.getD_eq_getElem?_getD, hi]
  rw [e]
  exact rowL_ok hP (hr i · hi)

/-- a matrix with a row behind it -/
def snocM (n : Nat) (M : Nat → Nat → Int) (r : Nat → Int) (i : Nat) : Nat → Int := if i < n then M i else r

/-- with a row more the rank is the same or one more -/
theorem HasRank.more {P : Int} {C n k : Nat} {M0 : Nat → Nat → Int} (hp : primeOk P = true) (h : HasRank P C n M0 k) (r : Nat → Int) (hr : ∀ j, j < C → 0 ≤ r j ∧ r j < P) :
    ∃ k', (k' = k ∨ k' = k + 1) ∧ HasRank P C (n + 1) (snocM n M0 r) k' := by
  obtain ⟨hP2, hP7⟩ := primeOk_range hp
  obtain ⟨M, q, h1, h2, h3, h4⟩ := h
  obtain ⟨out, hout⟩ : ∃ out, out = rowsL k C M := ⟨_, rfl⟩
  have hl : out.length = k := by rw [hout, rowsL_length]
  have hm : ∀ i j, i < k → j < C → mt out i j = M i j := fun i j hi hj => by rw [hout]; exact rowsL_mt hi hj
  have hred : Red P C out.length (mt out) q := by
    rw [hl]
    refine ⟨h1.lt, fun i m hi hm' => ?_, fun i j hi hj => ?_⟩
    · rw [hm i _ hi (h1.lt m hm')]; exact h1.unit i m hi hm'
    · have := h1.lt i hi
      rw [hm i j hi (by omega)]; exact h1.lead i j hi hj
  have hok : RowsOk P C out := by rw [hout]; exact rowsL_ok (by omega) h3
  have hrow : RowOk P C ((List.range C).map r) := rowL_ok (by omega) hr
  have hsp : SameSp P C (n + 1) (snocM n M0 r) (out.length + 1) (mt (out ++ [(List.range C).map r])) := by
    have e0 : SameSp P C n M0 out.length (mt out) := by
      rw [hl]
      exact h4.trans (SameSp.of_eqv fun i hi => .of_eq fun j hj => (hm i j hi hj).symm)
    have e1 : SameSp P C n (snocM n M0 r) out.length (mt out) := (SameSp.of_eqv fun i hi => by unfold snocM; rw [if_pos hi]; exact .refl _ _ _).trans e0
    refine SameSp.snoc e1 ?_ fun i hi => by rw [mt_snoc_lt hi]; exact .refl _ _ _
    rw [mt_snoc_at]
    unfold snocM
    rw [if_neg (Nat.lt_irrefl _)]
    exact .of_eq fun j hj => by simp [List.getD_eq_getElem?_getD, hj]
  generalize (List.range C).map r = rl at *
  obtain ⟨cur, hel⟩ := El.all (r := rl) hP2 hred hrow out.length (Nat.le_refl _)
  have hcl := hel.ok.1
  rcases pivL_cases cur with ⟨_, h0⟩ | ⟨K, _, hK, hKn, hK0⟩
  · refine ⟨k, .inl rfl, ?_⟩
    have := hsp.trans (hel.none h0)
    obtain ⟨M', q', hs⟩ := hred.sort fun i c hi hc => by rw [hl] at hi; rw [hm i c hi hc]; exact h3 i c hi hc
    rw [hl] at hs this
    exact HasRank.same ⟨M', q', hs⟩ this
  · refine ⟨k + 1, .inr rfl, ?_⟩
    have hKr := hel.ok.2 K
    obtain ⟨s, hs0, hs1, hs2⟩ := inv_ex (p := P) (x := cur.getD K 0) hp (by omega) (by omega)
    obtain ⟨t1, t2, t3⟩ := hel.more hP2 hred hok (by omega) hK0 hKn hs2
    have hlen : (clearL P K out (scaleL P s cur) out.length ++ [scaleL P s cur]).length = out.length + 1 := by simp [clearL_length]
    obtain ⟨M', q', hs⟩ := t1.sort fun i c hi hc => (t2 i (by omega)).2 c
    have hk : out.length + 1 = k + 1 := by omega
    rw [hk] at hs t3 hsp
    exact HasRank.same ⟨M', q', hs⟩ (hsp.trans t3)

/-- the ranks of the first rows -/
theorem ranks_ex {P : Int} {C : Nat} {M : Nat → Nat → Int} (hp : primeOk P = true) (R : Nat) (hr : ∀ i j, i < R → j < C → 0 ≤ M i j ∧ M i j < P) :
    ∃ f : Nat → Nat, f 0 = 0 ∧ (∀ n, n ≤ R → HasRank P C n M (f n)) ∧ ∀ n, n < R → f (n + 1) = f n ∨ f (n + 1) = f n + 1 := by
  obtain ⟨hP2, hP7⟩ := primeOk_range hp
  have hex : ∀ n, n ≤ R → ∃ k, HasRank P C n M k := by
    intro n
    induction n with
    | zero => exact fun _ => ⟨0, .zero _ _ _⟩
    | succ n ih =>
      intro hn
      obtain ⟨k, hk⟩ := ih (by omega)
      obtain ⟨k', _, hk'⟩ := hk.more hp (M n) (hr n · (by omega))
      exact ⟨k', hk'.congr fun i j hi hj => by unfold snocM; split; rfl; rw [show i = n by omega]⟩
  refine ⟨fun n => if h : n ≤ R then Classical.choose (hex n h) else 0, ?_, fun n hn => ?_, fun n hn => ?_⟩
  · simp only [Nat.zero_le, dif_pos]
    exact (Classical.choose_spec (hex 0 (Nat.zero_le _))).one hP2 (.zero _ _ _)
  · simp only [hn, dif_pos]
    exact Classical.choose_spec (hex n hn)
  · simp only [show n ≤ R by omega, show n + 1 ≤ R by omega, dif_pos]
    have h1 := Classical.choose_spec (hex n (by omega))
    have h2 := Classical.choose_spec (hex (n + 1) (by omega))
    generalize Classical.choose (hex n (by omega)) = a at *
    generalize Classical.choose (hex (n + 1) (by omega)) = b at *
    obtain ⟨k', hk, hk'⟩ := h1.more hp (M n) (hr n · hn)
    have := (hk'.congr (M1 := M) fun i j hi hj => by unfold snocM; split; rfl; rw [show i = n by omega]).one hP2 h2
    omega
theorem steps_le {f : Nat → Nat} {R : Nat} (h : ∀ n, n < R → f (n + 1) = f n ∨ f (n + 1) = f n + 1) : ∀ d n, n + d ≤ R → f n ≤ f (n + d) ∧ f (n + d) ≤ f n + d
  | 0, n, _ => ⟨Nat.le_refl _, Nat.le_refl _⟩
  | d + 1, n, hd => by
    have a := steps_le h d n (by omega)
    have b := h (n + d) (by omega)
    have e : n + (d + 1) = n + d + 1 := by omega
    rw [e]
    omega
theorem HasRank.le {P : Int} {C R k : Nat} {M : Nat → Nat → Int} (hp : primeOk P = true) (hr : ∀ i j, i < R → j < C → 0 ≤ M i j ∧ M i j < P) (h : HasRank P C R M k) : k ≤ R := by
  obtain ⟨f, f0, f1, f2⟩ := ranks_ex hp R hr
  have := h.one (primeOk_range hp).1 (f1 R (Nat.le_refl _))
  have a := steps_le f2 R 0 (by omega)
  rw [Nat.zero_add] at a
  omega
theorem asc_bound {n C : Nat} {q : Nat → Nat} (h : ∀ i k, i < k → k < n → q i < q k) (hl : ∀ i, i < n → q i < C) : n ≤ C := by
  have : ∀ i, i < n → i ≤ q i := by
    intro i
    induction i with
    | zero => exact fun _ => Nat.zero_le _
    | succ i ih =>
      intro hi
      have a := ih (by omega)
      have b := h i (i + 1) (by omega) hi
      omega
  rcases Nat.eq_zero_or_pos n with e | e
  · omega
  · have a := this (n - 1) (by omega)
    have b := hl (n - 1) (by omega)
    omega
theorem HasRank.leC {P : Int} {C R k : Nat} {M : Nat → Nat → Int} (h : HasRank P C R M k) : k ≤ C := by
  obtain ⟨M', q, h1, h2, _⟩ := h
  exact asc_bound h2 h1.lt
/-- where the rank is the number of rows, so it is for the first of them -/
theorem HasRank.part {P : Int} {C R i : Nat} {M : Nat → Nat → Int} (hp : primeOk P = true) (hr : ∀ i j, i < R → j < C → 0 ≤ M i j ∧ M i j < P) (h : HasRank P C R M R) (hi : i ≤ R) : HasRank P C i M i := by
  obtain ⟨f, f0, f1, f2⟩ := ranks_ex hp R hr
  have e := h.one (primeOk_range hp).1 (f1 R (Nat.le_refl _))
  have a := steps_le f2 i 0 (by omega)
  have b := steps_le f2 (R - i) i (by omega)
  rw [Nat.zero_add] at a
  rw [show i + (R - i) = R by omega] at b
  have := f1 i hi
  rwa [show f i = i by omega] at this

/-- the first i rows of one, and the first j rows of another one behind them -/
def stackM (i : Nat) (A B : Nat → Nat → Int) (t : Nat) : Nat → Int := if t < i then A t else B (t - i)
theorem stackM_lt {i t : Nat} {A B : Nat → Nat → Int} (h : t < i) : stackM i A B t = A t := by unfold stackM; rw [if_pos h]
theorem stackM_ge {i t : Nat} {A B : Nat → Nat → Int} (h : ¬ t < i) : stackM i A B t = B (t - i) := by unfold stackM; rw [if_neg h]
theorem snocM_lt {n t : Nat} {M : Nat → Nat → Int} {r : Nat → Int} (h : t < n) : snocM n M r t = M t := by unfold snocM; rw [if_pos h]
theorem snocM_at (n : Nat) (M : Nat → Nat → Int) (r : Nat → Int) : snocM n M r n = r := by unfold snocM; rw [if_neg (Nat.lt_irrefl _)]
theorem stackM_rng {P : Int} {C i j : Nat} {A B : Nat → Nat → Int} (ha : ∀ t c, t < i → c < C → 0 ≤ A t c ∧ A t c < P) (hb : ∀ t c, t < j → c < C → 0 ≤ B t c ∧ B t c < P) :
    ∀ t c, t < i + j → c < C → 0 ≤ stackM i A B t c ∧ stackM i A B t c < P := fun t c ht hc => by
  unfold stackM
  split
  · exact ha t c (by assumption) hc
  · exact hb _ c (by omega) hc
/-- a row more in the first one: the rank is the same or one more -/
theorem stack_step {P : Int} {C i j k k' : Nat} {A B : Nat → Nat → Int} (hp : primeOk P = true) (hr : ∀ c, c < C → 0 ≤ A i c ∧ A i c < P)
    (h : HasRank P C (i + j) (stackM i A B) k) (h' : HasRank P C (i + 1 + j) (stackM (i + 1) A B) k') : k' = k ∨ k' = k + 1 := by
  obtain ⟨m, hm, h2⟩ := h.more hp (A i) hr
  have hs : SameSp P C (i + 1 + j) (stackM (i + 1) A B) (i + j + 1) (snocM (i + j) (stackM i A B) (A i)) := by
    refine SameSp.perm (fun t => if t < i then t else if t = i then i + j else t - 1) (fun t => if t < i then t else if t = i + j then i else t + 1) (fun t ht => ?_) (fun t ht => ?_)
    · by_cases h1 : t < i
      · simp only [h1, if_true]
        rw [stackM_lt (show t < i + 1 by omega), snocM_lt (show t < i + j by omega), stackM_lt h1]
        exact ⟨by omega, .refl _ _ _⟩
      · by_cases h2 : t = i
        · subst h2
          simp only [h1, if_false, if_true]
          rw [stackM_lt (show t < t + 1 by omega), snocM_at]
          exact ⟨by omega, .refl _ _ _⟩
        · simp only [h1, h2, if_false]
          rw [stackM_ge (show ¬ t < i + 1 by omega), snocM_lt (show t - 1 < i + j by omega), stackM_ge (show ¬ t - 1 < i by omega), show t - (i + 1) = t - 1 - i by omega]
          exact ⟨by omega, .refl _ _ _⟩
    · by_cases h1 : t < i
      · simp only [h1, if_true]
        rw [snocM_lt (show t < i + j by omega), stackM_lt h1, stackM_lt (show t < i + 1 by omega)]
        exact ⟨by omega, .refl _ _ _⟩
      · by_cases h2 : t = i + j
        · subst h2
          simp only [h1, if_false, if_true]
          rw [snocM_at, stackM_lt (show i < i + 1 by omega)]
          exact ⟨by omega, .refl _ _ _⟩
        · simp only [h1, h2, if_false]
          rw [snocM_lt (show t < i + j by omega), stackM_ge h1, stackM_ge (show ¬ t + 1 < i + 1 by omega), show t + 1 - (i + 1) = t - i by omega]
          exact ⟨by omega, .refl _ _ _⟩
  have := h'.one (primeOk_range hp).1 (h2.same hs)
  omega

end Go.Proofs.Ytklpaannmdbmiaa

namespace Go.Proofs.Ytklpaannmdbmiaa
set_option linter.all false
open Go.RowKit

/-- it is a flag -/
def IsFl (P R C : Int) (D : List Int) : Prop := mxOk P R C D = true ∧ R = C ∧ RkIs P R C D R
theorem fk_yes {P R C : Int} {D : List Int} (h : IsFl P R C D) : Classical.epsilon (FkIs P R C D) = true := (FkIs.eps (b := true) ⟨fun _ => h, fun _ => rfl⟩).symm
theorem fk_no {P R C : Int} {D : List Int} (h : ¬ IsFl P R C D) : Classical.epsilon (FkIs P R C D) = false := (FkIs.eps (b := false) ⟨fun e => (by cases e), fun h2 => absurd h2 h⟩).symm

theorem IsFl.facts {P R C : Int} {D : List Int} (h : IsFl P R C D) : ∃ n : Nat, R = n ∧ C = n ∧ 1 ≤ n ∧ n ≤ 7 ∧ D.length = n * n ∧ (∀ x ∈ D, 0 ≤ x ∧ x < P) ∧ 2 ≤ P ∧ P ≤ 7 ∧ primeOk P = true ∧ HasRank P n n (mf n fun t => D.getD t 0) n := by
  obtain ⟨h1, h2, h3⟩ := h
  obtain ⟨r, c, rfl, rfl, hr, hc0, hc, hlD, hD, hP2, hP7, hpr⟩ := mxOk_facts h1
  obtain rfl := Int.ofNat.inj h2
  unfold RkIs at h3
  rw [if_pos h1] at h3
  obtain ⟨n, e, _, hn⟩ := h3
  obtain rfl := Int.ofNat.inj e
  simp only [Int.toNat_natCast] at hn
  exact ⟨r, rfl, rfl, hc0, hc, hlD, hD, hP2, hP7, hpr, hn⟩

end Go.Proofs.Ytklpaannmdbmiaa
