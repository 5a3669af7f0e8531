/-
  plus: a polynomial and a multiple of another one.
  raised: a variable times a polynomial.
-/
import Derived.Test.YtllmhicmikpfeaaJ4
namespace Go.Proofs.Ytllmhicmikpfeaa
set_option linter.all false
set_option maxRecDepth 100000
open Go.RowKit Go.Maps Go.WideMaps Go.WideElems Go.MapKept Go.ChangeMaps Go.ChangeShapes

def sclP (k : Int) (P : Pl) : Pl := P.map fun p => (p.1, k * p.2)
theorem Ev_scl (k : Int) (P : Pl) (g : List Int → Int) : Ev (sclP k P) g = Ev P fun e => k * g e := by
  induction P with
  | nil => rfl
  | cons p l ih =>
    show k * p.2 * g p.1 + Ev (sclP k l) g = p.2 * (k * g p.1) + Ev l _
    rw [ih, Int.mul_comm k p.2, Int.mul_assoc]
theorem Ev_mul (k : Int) (P : Pl) (g : List Int → Int) : (Ev P fun e => k * g e) = k * Ev P g := by
  induction P with
  | nil => simp [Ev]
  | cons p l ih =>
    show p.2 * (k * g p.1) + Ev l _ = k * (p.2 * g p.1 + Ev l g)
    rw [ih, Int.mul_add, Int.mul_left_comm]
theorem has_sub {left : Lit → Bool} {D : DU} {k : Lit} (h : ∀ l, left l = true → has D l = true) : ∀ l, (left l && !l.sameKey k) = true → has D l = true := fun l hl => h l (by simp at hl; exact hl.1)

set_option maxRecDepth 100000 in
set_option maxHeartbeats 4000000 in
theorem plus_any (u v : Value) (k : Int) (d nf ng : Nat) (P Q : Pl) (w : World) (hf : PolV w u d nf P) (hg : PolV w v d ng Q) (hd : d ≤ 1000000) (hn : nf + ng < 1000000000000000) :
    Calls Try.prog 53 #[u, .int .i64 k, v] w fun e w' => ∃ u', e = .returned u' ∧ PolV w' u' d (nf + ng) (P ++ sclP k Q) ∧ Below w.heap.size w w' := by
  obtain ⟨bf, Df, rfl, hf1, hf2⟩ := hf
  obtain ⟨bg, Dg, rfl, hg1, hg2⟩ := hg
  have hmm := @run_makeMap Try.prog
  have hblf := hf1.lt
  have hblg := hg1.lt
  have hszf := hf1.size_le
  have hszg := hg1.size_le
  have e1 : (w.alloc (.map #[] 0)).heap.size = w.heap.size + 1 := by simp
  have HF2 := Lib.hid hf2
  have HG2 := Lib.hid hg2
  obtain ⟨B, hB⟩ : ∃ B, B = w.heap.size := ⟨_, rfl⟩
  have HB := Lib.hid hB
  have hG0 := Lib.hid (Gath.start (T := fun g => g) hf1 hf2)
  clear hf2 hg2
  go_enter Try.func53, Try.ntmps53
  go_wp2_with (first
    | (at_range; refine wpList_range_own _ rfl _ 52 rfl 72 3 klaw und41 _ bf nf _ rfl (hf1.alloc _) ?_; intro w0 hrg0 hg0 hs0)
    | fail)
  go_frame
  rw [e1] at hrg0 hs0 ⊢
  have hown0 : OwnMp w0 w.heap.size 0 (.map []) := (World.ownsMap_made _ _ _ _).kept hg0 (by simp)
  have hbel0 : Below w.heap.size w w0 := ((Below.refl _ _).alloc (Nat.le_refl _) _).grown hg0 (by simp) (fun j hj => by cases hj)
  rw [← hB] at hrg0 hs0 hown0 hbel0 hblf hblg ⊢
  have Hbel0 := Lib.hid hbel0
  clear hbel0 hg0 e1 hB
  go_loopg [8, 9] (Maps.size Df) (fun g s8 s9 wr => ∃ (left : Lit → Bool) (Dout : DU) (A : Pl), RanP wr bf (B + 1) nf Df left g ∧ g ≤ Maps.size Df ∧ (∀ l, left l = true → has Df l = true) ∧
      OwnMp wr B (Maps.size Df - g) Dout ∧ Hid (PolM d Dout A) ∧ Hid (Gath Df P (fun g => g) left A) ∧ Hid (Below B w wr))
  case atStart => exact ⟨_, .map [], [], hrg0, Nat.le_refl _, fun _ h => h, hown0.mono (Nat.zero_le _), Lib.hid (PolM.empty _), hG0, Hbel0⟩
  case round =>
    obtain ⟨left, Dout, A, hrg, hgs, hleft, hout, hpm, hga, hbel⟩ := hrel
    obtain ⟨wx, rfl⟩ : ∃ x : World, x = wr := ⟨_, rfl⟩
    have hpm0 := hpm.out
    go_wp2_with (first
      | (at_next; refine wpList_next_poly _ rfl _ rfl bf (B + 1) nf d Df P left gk rfl hrg HF2.out hd hleft ?_ ?_)
      | fail)
    · intro hc0 hl0
      have hend := (hga.out.end hl0)
      have Hpm := Lib.hid (hpm.out.alt (Q := P) hend)
      have hg1x : OwnMp wx bg ng Dg := by
        obtain ⟨es, clock, hb', F, hs, hD⟩ := hg1
        exact ⟨es, clock, (hbel.out.block bg hblg).trans hb', F, hs, hD⟩
      have hG1 := Lib.hid (Gath.start (T := fun g e => k * g e) hg1x HG2.out)
      have Hbel := Lib.hid hbel.out
      have hout1 : OwnMp wx B nf Dout := hout.mono (by omega)
      have hBx := hout.lt
      clear hrg hleft hout hpm hga hbel hend hG0 hgs hc0 hl0 hf1 hg1 hszf hrg0 hown0 hs0
      go_wp2_with (first
        | (at_range; refine wpList_range_own _ rfl _ 52 rfl 72 3 klaw und41 _ bg ng _ rfl hg1x ?_; intro w0' hrg0 hg0 hs0)
        | fail)
      go_frame
      obtain ⟨r, hr⟩ : ∃ r, r = wx.heap.size := ⟨_, rfl⟩
      have hown0 := hout1.kept hg0 (by simp)
      have Hbel0 := Lib.hid (Hbel.out.grown hg0 (by omega) (fun j hj => by cases hj))
      rw [← hr] at hrg0 hs0 hBx ⊢
      clear hg0 hr hout1 hg1x Hbel
      go_loopg [10, 11] (Maps.size Dg) (fun g s10 s11 wr => ∃ (left : Lit → Bool) (Dout : DU) (A : Pl), RanP wr bg r ng Dg left g ∧ g ≤ Maps.size Dg ∧ (∀ l, left l = true → has Dg l = true) ∧
          OwnMp wr B (nf + (Maps.size Dg - g)) Dout ∧ Hid (PolM d Dout (P ++ A)) ∧ Hid (Gath Dg Q (fun g e => k * g e) left A) ∧ Hid (Below B w wr))
      case atStart => exact ⟨_, _, [], hrg0, Nat.le_refl _, fun _ h => h, hown0.mono (by omega), by rw [List.append_nil]; exact Hpm, hG1, Hbel0⟩
      case round =>
        obtain ⟨left, Dout, A, hrg, hgs, hleft, hout, hpm, hga, hbel⟩ := hrel
        obtain ⟨wy, rfl⟩ : ∃ x : World, x = wr := ⟨_, rfl⟩
        go_wp2_with (first
          | (at_next; refine wpList_next_poly _ rfl _ rfl bg r ng d Dg Q left gk rfl hrg HG2.out hd hleft ?_ ?_)
          | fail)
        · intro hc0 hl0
          have hend := (hga.out.end hl0)
          go_wp2_with fail
          go_ret
          refine ⟨_, rfl, ⟨B, Dout, rfl, hout.mono (by omega), hpm.out.alt fun g => ?_⟩, HB.out ▸ hbel.out⟩
          rw [Ev_append, Ev_append, Ev_scl]
          exact (Cg.refl _).add (hend g)
        · intro a0 a1 a2 a3 a4 a5 a6 c w1 cnt1 hK hlx hwf hat hrg1 hlt hgr1 hs1 hen
          have Hat := Lib.hid hat
          have Hgr1 := Lib.hid hgr1
          have hout1 := hout.kept hgr1 (by intro h; injection h with h; omega)
          have hBy := hout.lt
          clear hat hgr1
          go_wp2_with fail
          refine (add_any B (nf + (Maps.size Dg - gk)) d Dout (P ++ A) [a0, a1, a2, a3, a4, a5, a6] (wrap64 (k * c)) _ (hout1.alloc _) hpm.out hK hd (by omega)).mono ?_
          rintro e w2 ⟨rfl, D2, ho2, hp2, hg2⟩
          have hrg2 := (hrg1.alloc _).kept hg2 (by intro h; injection h with h; omega) (by intro h; injection h with h; omega)
          have Hp2 := Lib.hid hp2
          have Hb2 := Lib.hid (((hbel.out.grown Hgr1.out (by omega) (fun j hj => by cases hj; omega)).alloc (by omega) _).grown hg2 (by simp; omega) (fun j hj => by cases hj; omega))
          clear hp2 hg2
          go_wp2_with fail
          go_roundg cnt1
          case measure => exact hlt
          case rel =>
            refine ⟨_, D2, A ++ [([a0, a1, a2, a3, a4, a5, a6], wrap64 (k * c))], hrg2, by omega, has_sub hleft, ho2.mono (by omega), by rw [← List.append_assoc]; exact Hp2, Lib.hid (hga.out.step HG2.out.tidy hK hd hlx Hat.out fun g => ?_), Hb2⟩
            rw [Ev_append]
            refine (Cg.refl _).add ?_
            simp only [Ev, Int.add_zero]
            rw [Int.mul_left_comm, ← Int.mul_assoc]
            exact (cg_wrap _).mul (Cg.refl _)
    · intro a0 a1 a2 a3 a4 a5 a6 c w1 cnt1 hK hlx hwf hat hrg1 hlt hgr1 hs1 hen
      have Hat := Lib.hid hat
      have Hgr1 := Lib.hid hgr1
      have hout1 := hout.kept hgr1 (by intro h; injection h with h; omega)
      have hBx := hout.lt
      clear hat hgr1 hpm0
      go_wp2_with fail
      refine (add_any B (Maps.size Df - gk) d Dout A [a0, a1, a2, a3, a4, a5, a6] c _ (hout1.alloc _) hpm.out hK hd (by omega)).mono ?_
      rintro e w2 ⟨rfl, D2, ho2, hp2, hg2⟩
      have hrg2 := (hrg1.alloc _).kept hg2 (by intro h; injection h with h; omega) (by intro h; injection h with h; omega)
      have Hp2 := Lib.hid hp2
      have Hb2 := Lib.hid (((hbel.out.grown Hgr1.out (by omega) (fun j hj => by cases hj; omega)).alloc (by omega) _).grown hg2 (by simp; omega) (fun j hj => by cases hj; omega))
      clear hp2 hg2
      go_wp2_with fail
      go_roundg cnt1
      case measure => exact hlt
      case rel =>
        refine ⟨_, D2, A ++ [([a0, a1, a2, a3, a4, a5, a6], c)], hrg2, by omega, has_sub hleft, ho2.mono (by omega), Hp2, Lib.hid (hga.out.step HF2.out.tidy hK hd hlx Hat.out fun g => ?_), Hb2⟩
        rw [Ev_append]
        exact (Cg.refl _).add (Cg.of _ _ (by simp [Ev]))

end Go.Proofs.Ytllmhicmikpfeaa

namespace Go.Proofs.Ytllmhicmikpfeaa
set_option linter.all false
set_option maxRecDepth 100000
open Go.RowKit Go.Maps Go.WideMaps Go.WideElems Go.MapKept Go.ChangeMaps Go.ChangeShapes

def rsE (i : Nat) (e : List Int) : List Int := e.set i (e.getD i 0 + 1)
def rsP (i : Nat) (P : Pl) : Pl := P.map fun p => (rsE i p.1, p.2)
theorem Ev_rs (i : Nat) (P : Pl) (g : List Int → Int) : Ev (rsP i P) g = Ev P fun e => g (rsE i e) := by
  induction P with
  | nil => rfl
  | cons p l ih =>
    show p.2 * g (rsE i p.1) + Ev (rsP i l) g = p.2 * g (rsE i p.1) + Ev l _
    rw [ih]
theorem rsE_inj {i : Nat} {e e' : List Int} (hi : i < 7) (h1 : e.length = 7) (h2 : e'.length = 7) (h : rsE i e = rsE i e') : e = e' := by
  refine List.ext_getElem (by omega) fun j hj hj' => ?_
  have := congrArg (fun l => l.getD j 0) h
  unfold rsE at this
  simp only [List.getD_eq_getElem?_getD, List.getElem?_set] at this
  by_cases e1 : i = j
  · subst e1
    simp [h1, h2, hi, hj, hj'] at this
    omega
  · simpa [e1, hj, hj'] using this
theorem K7.rs {d i : Nat} {e : List Int} (h : K7 d e) (hi : i < 7) : K7 (d + 1) (rsE i e) := by
  refine ⟨by unfold rsE; simpa using h.1, fun x hx => ?_⟩
  rcases List.mem_or_eq_of_mem_set hx with hx | rfl
  · have := h.2 x hx; omega
  · have := h.2 (e.getD i 0) (by rw [List.getD_eq_getElem?_getD, List.getElem?_eq_getElem (by rw [h.1]; exact hi)]; exact List.getElem_mem _)
    omega
theorem PolM.putNew {d : Nat} {D : DU} {P : Pl} (h : PolM d D P) (hd : d ≤ 1000000) {e : List Int} (he : K7 d e) {c : Int} (hn : has D (kl e) = false) (hc : c ≠ 0) : PolM d (D.put (kl e) (.lit (.int .i64 c))) (P ++ [(e, c)]) := by
  refine ⟨h.tidy.put (kl_lit e) _, fun l hl => ?_, fun g => ?_, fun l hl z => ?_⟩
  · by_cases hk : l = kl e
    · exact ⟨e, hk, he⟩
    · rw [has_put_other hk] at hl
      exact h.keys l hl
  · rw [SmD_put h.tidy (k := kl e) (fun l => g (unkl l)) (.lit (.int .i64 c)), del_of_not_has hn, Ev_append]
    simp only [coef, unkl_kl he hd]
    exact (h.sum g).add (Cg.of _ _ (by simp [Ev]))
  · by_cases hk : l = kl e
    · rw [hk, atKey_put_same h.tidy.isMap (kl_lit e)]
      intro e2
      injection e2 with e2
      injection e2 with _ e2
      exact hc e2
    · rw [has_put_other hk] at hl
      rw [atKey_put_other hk]
      exact h.nz l hl z
/-- the keys of what is gathered come of those that are gone -/
def RsK (i d : Nat) (left : Lit → Bool) (Dout : DU) : Prop := ∀ l, has Dout l = true → ∃ e, K7 d e ∧ l = kl (rsE i e) ∧ left (kl e) = false
theorem RsK.step {i d : Nat} {left : Lit → Bool} {Dout : DU} (h : RsK i d left Dout) (hi : i < 7) (hd : d + 1 ≤ 1000000) {e : List Int} (he : K7 d e) (hl : left (kl e) = true) (c : Int) :
    has Dout (kl (rsE i e)) = false ∧ RsK i d (fun z => left z && !z.sameKey (kl e)) (Dout.put (kl (rsE i e)) (.lit (.int .i64 c))) := by
  refine ⟨?_, fun l hl' => ?_⟩
  · cases hh : has Dout (kl (rsE i e)) with
    | false => rfl
    | true =>
      obtain ⟨e', h1, h2, h3⟩ := h _ hh
      have := rsE_inj hi he.1 h1.1 (kl_inj (he.rs hi) hd (h1.rs hi) hd h2)
      subst this
      rw [hl] at h3; cases h3
  · by_cases hk : l = kl (rsE i e)
    · exact ⟨e, he, hk, by simp [WideAt.sameKey_self (kl_lit e)]⟩
    · rw [has_put_other hk] at hl'
      obtain ⟨e', h1, h2, h3⟩ := h _ hl'
      exact ⟨e', h1, h2, by simp [h3]⟩

set_option maxRecDepth 100000 in
set_option maxHeartbeats 8000000 in
theorem raised_any (u : Value) (i d nf : Nat) (P : Pl) (w : World) (hf : PolV w u d nf P) (hi : i < 7) (hd : d < 1000000) (hn : nf < 1000000000000000) :
    Calls Try.prog 54 #[u, .int .i64 (i : Int)] w fun e w' => ∃ u', e = .returned u' ∧ PolV w' u' (d + 1) nf (rsP i P) ∧ Below w.heap.size w w' := by
  obtain ⟨bf, Df, rfl, hf1, hf2⟩ := hf
  have hmm := @run_makeMap Try.prog
  have hblf := hf1.lt
  have hszf := hf1.size_le
  have e1 : (w.alloc (.map #[] 0)).heap.size = w.heap.size + 1 := by simp
  have HF2 := Lib.hid hf2
  obtain ⟨B, hB⟩ : ∃ B, B = w.heap.size := ⟨_, rfl⟩
  have HB := Lib.hid hB
  have hG0 := Lib.hid (Gath.start (T := fun g e => g (rsE i e)) hf1 hf2)
  have hi' : i = 0 ∨ i = 1 ∨ i = 2 ∨ i = 3 ∨ i = 4 ∨ i = 5 ∨ i = 6 := by omega
  obtain ⟨ii, hii⟩ : ∃ ii : Nat, ii = i := ⟨_, rfl⟩
  have Hii := Lib.hid hii
  rw [← hii] at hG0
  have hi0 : ii < 7 := by omega
  show Calls Try.prog 54 #[.map (some bf), .int .i64 (i : Int)] w fun e w' => ∃ u', e = .returned u' ∧ PolV w' u' (d + 1) nf (rsP i P) ∧ Below w.heap.size w w'
  conv in rsP i P => rw [← hii]
  clear hf2 hii
  go_enter Try.func54, Try.ntmps54
  go_wp2_with (first
    | (at_range; refine wpList_range_own _ rfl _ 52 rfl 72 3 klaw und41 _ bf nf _ rfl (hf1.alloc _) ?_; intro w0 hrg0 hg0 hs0)
    | fail)
  go_frame
  rw [e1] at hrg0 hs0 ⊢
  have hown0 : OwnMp w0 w.heap.size 0 (.map []) := (World.ownsMap_made _ _ _ _).kept hg0 (by simp)
  have hbel0 : Below w.heap.size w w0 := ((Below.refl _ _).alloc (Nat.le_refl _) _).grown hg0 (by simp) (fun j hj => by cases hj)
  rw [← hB] at hrg0 hs0 hown0 hbel0 hblf ⊢
  have Hbel0 := Lib.hid hbel0
  clear hbel0 hg0 e1 hB
  go_loopg [6, 7] (Maps.size Df) (fun g s6 s7 wr => ∃ (left : Lit → Bool) (Dout : DU) (A : Pl), RanP wr bf (B + 1) nf Df left g ∧ g ≤ Maps.size Df ∧ (∀ l, left l = true → has Df l = true) ∧
      OwnMp wr B (Maps.size Df - g) Dout ∧ Hid (PolM (d + 1) Dout A) ∧ Hid (Gath Df P (fun g e => g (rsE ii e)) left A) ∧ Hid (RsK ii d left Dout) ∧ Hid (Below B w wr))
  case atStart => exact ⟨_, .map [], [], hrg0, Nat.le_refl _, fun _ h => h, hown0.mono (Nat.zero_le _), Lib.hid (PolM.empty _), hG0, Lib.hid (fun l h => by simp [has] at h), Hbel0⟩
  case round =>
    obtain ⟨left, Dout, A, hrg, hgs, hleft, hout, hpm, hga, hrs, hbel⟩ := hrel
    obtain ⟨wx, rfl⟩ : ∃ x : World, x = wr := ⟨_, rfl⟩
    go_wp2_with (first
      | (at_next; refine wpList_next_poly _ rfl _ rfl bf (B + 1) nf d Df P left gk rfl hrg HF2.out (by omega) hleft ?_ ?_)
      | fail)
    · intro hc0 hl0
      have hend := (hga.out.end hl0)
      go_wp2_with fail
      go_ret
      refine ⟨_, rfl, ⟨B, Dout, rfl, hout.mono (by omega), hpm.out.alt fun g => ?_⟩, HB.out ▸ hbel.out⟩
      rw [Ev_rs]
      exact hend g
    · intro a0 a1 a2 a3 a4 a5 a6 c w1 cnt1 hK hlx hwf hat hrg1 hlt hgr1 hs1 hen
      have Hat := Lib.hid hat
      have Hgr1 := Lib.hid hgr1
      have hout1 := hout.kept hgr1 (by intro h; injection h with h; omega)
      have hBx := hout.lt
      have hKr := hK.rs hi0
      obtain ⟨hnew, hrs2⟩ := hrs.out.step hi0 (by omega) hK hlx c
      have hcn : c ≠ 0 := fun e => HF2.out.nz _ (hleft _ hlx) (.lit (.int .i64 0)) (by rw [hat, e])
      have hpm2 := Lib.hid (hpm.out.putNew (by omega) hKr (c := c) hnew hcn)
      clear hcn
      have hkey := keyOf_kv hKr (by omega)
      have Hrs2 := Lib.hid hrs2
      have b0 := hK.2 a0 (by simp)
      have b1 := hK.2 a1 (by simp)
      have b2 := hK.2 a2 (by simp)
      have b3 := hK.2 a3 (by simp)
      have b4 := hK.2 a4 (by simp)
      have b5 := hK.2 a5 (by simp)
      have b6 := hK.2 a6 (by simp)
      obtain ⟨K, hKK⟩ : ∃ K, K = kl (rsE ii [a0, a1, a2, a3, a4, a5, a6]) := ⟨_, rfl⟩
      rw [← hKK] at hkey hpm2 Hrs2
      clear hat hgr1 hnew hrs2 hKK
      have hiii := Hii.out
      rcases hi' with h0 | h0 | h0 | h0 | h0 | h0 | h0
      all_goals
        subst h0
        rw [hiii] at hkey
        simp only [rsE, kv, List.getD_cons_zero, List.getD_cons_succ, List.set_cons_zero, List.set_cons_succ, List.map_cons, List.map_nil] at hkey
        go_wp2_with (first
          | (at_mapUpdate; refine wpList_mapUpdate_own _ rfl _ _ _ 52 rfl 72 3 klaw und41 _ B _ _ rfl (hout1.alloc _) (by unfold maxLen; omega) _ _ K rfl rfl hkey _ [] (plainElem_int undI hwf) ?_; intro w2 hout2 hg2; go_frame)
          | fail)
        have hrg2 := (hrg1.alloc _).kept hg2 (by intro h; injection h with h; omega) (by intro h; injection h with h; omega)
        have Hb2 := Lib.hid (((hbel.out.grown Hgr1.out (by omega) (fun j hj => by cases hj; omega)).alloc (by omega) _).grown hg2 (by simp; omega) (fun j hj => by cases hj; omega))
        go_roundg cnt1
        case measure => exact hlt
        case rel =>
          refine ⟨_, _, A ++ [(rsE ii [a0, a1, a2, a3, a4, a5, a6], c)], hrg2, by omega, has_sub hleft, hout2.mono (by omega), hpm2, Lib.hid (hga.out.step HF2.out.tidy hK (by omega) hlx Hat.out fun g => ?_), Hrs2, Hb2⟩
          rw [Ev_append]
          exact (Cg.refl _).add (Cg.of _ _ (by simp [Ev]))

end Go.Proofs.Ytllmhicmikpfeaa
