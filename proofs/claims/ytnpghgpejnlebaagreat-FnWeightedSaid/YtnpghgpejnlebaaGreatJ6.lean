/-
  poly.add: a number added at a key of a map.
  Ranging over a map keyed by seven numbers; plus.
  plus: a polynomial and a multiple of another one.
  raised: a variable times a polynomial.
-/
import Derived.Test.YtnpghgpejnlebaaGreatJ5
import Derived.WalkKit
import Derived.BigRegion
namespace Go.Proofs.YtnpghgpejnlebaaGreat
set_option linter.all false
set_option maxRecDepth 100000
open Go.RowKit Go.Maps Go.WideMaps Go.WideElems Go.MapKept Go.ChangeMaps Go.ChangeShapes

abbrev OwnMp (w : World) (b n : Nat) (D : DU) : Prop := w.ownsMap Tryz.prog 106 (plainElem (H := Unit) Tryz.prog 3) b n D

theorem blk7 {w : World} {b : Nat} {x0 x1 x2 x3 x4 x5 x6 : Value} {T : TypeId} (h : w.heap[b]? = some (.cells #[x0, x1, x2, x3, x4, x5, x6] T (0, 0))) :
    w.cell? ⟨b, 0, none⟩ = some x0 ∧ w.cell? ⟨b, 1, none⟩ = some x1 ∧ w.cell? ⟨b, 2, none⟩ = some x2 ∧ w.cell? ⟨b, 3, none⟩ = some x3 ∧ w.cell? ⟨b, 4, none⟩ = some x4 ∧ w.cell? ⟨b, 5, none⟩ = some x5 ∧ w.cell? ⟨b, 6, none⟩ = some x6 ∧ (∀ j, w.frozen? ⟨b, j, none⟩ = false) ∧ b < w.heap.size :=
  ⟨cell_of_blk h rfl, cell_of_blk h rfl, cell_of_blk h rfl, cell_of_blk h rfl, cell_of_blk h rfl, cell_of_blk h rfl, cell_of_blk h rfl, free_of_blk h, (Array.getElem?_eq_some_iff.1 h).1⟩
/-- what the region of poly.add meets -/
theorem add_facts {u : World} {b n : Nat} {D : DU} {key : Value} {k0 : Lit} (hown : OwnMp u b n D) (hn : n < 1000000000000000) (hkey : keyOf Tryz.prog 106 key = some k0) :
    ∃ (c0 : Int) (st : Nat) (W1 : World), (Instr.lookup 97 (.map (some b)) key false).run Tryz.prog u = .ok (.int .i64 c0) u ∧
      D.atKey k0 (.lit (.int .i64 0)) = .lit (.int .i64 c0) ∧
      (Instr.mapEntry 97 (.map (some b)) key).run Tryz.prog u = .ok (.tuple #[.int .i64 c0, .int .i64 (st : Int)]) W1 ∧
      (Instr.lookup 97 (.map (some b)) key false).run Tryz.prog W1 = .ok (.int .i64 c0) W1 ∧
      u.grownBy W1 (some b) ∧ W1.heap.size = u.heap.size ∧
      ∀ s : Int, (Lit.int .i64 s).wf = true → ∃ W2, (Instr.entryStore 97 (.map (some b)) (.int .i64 (st : Int)) (.int .i64 s)).run Tryz.prog W1 = .ok () W2 ∧
        OwnMp W2 b (n + 1) (D.put k0 (.lit (.int .i64 s))) ∧ u.grownBy W2 (some b) ∧ W2.heap.size = u.heap.size := by
  have hown' := hown
  obtain ⟨c0, hl0, hat, hw0⟩ := hown.lookup_int klaw und41 undI (zeroI _) hkey
  obtain ⟨es, clock, hb, F, hs, hD⟩ := hown
  obtain ⟨v0, st, es1, clock1, h1, _, h3⟩ := entry_then_store arr7.law und41 zeroI hb F hkey
  have hlk := entry_look arr7.law und41 zeroI hb F hkey h1
  have hv : v0 = .int .i64 c0 := by
    have := hlk.2
    rw [hl0] at this
    injection this with this
    exact this.symm
  subst hv
  have hsz : ∀ o, (setBlock u b o).heap.size = u.heap.size := fun o => by simp [setBlock]
  have hgr : ∀ o, u.grownBy (setBlock u b o) (some b) := fun o => ⟨rfl, rfl, rfl, by rw [hsz]; exact Nat.le_refl _, fun i _ hi => heap_setBlock_other hb _ (fun e => hi (by rw [e]))⟩
  refine ⟨c0, st, _, hl0, hat, h1, hlk.1, hgr _, hsz _, fun s hs => ?_⟩
  obtain ⟨es', clock', hst, hup⟩ := h3 _ (.int .i64 s) (heap_setBlock_same hb _)
  obtain ⟨w', hrun, ho', hg'⟩ := hown'.update klaw und41 (by unfold maxLen; omega) hkey (plainElem_int undI hs)
  rw [hup] at hrun
  injection hrun with _ hrun
  have hh : setBlock (setBlock u b (.map es1 clock1)) b (.map es' clock') = setBlock u b (.map es' clock') := by
    simp [setBlock, Array.setIfInBounds_setIfInBounds]
  rw [hh] at hst
  exact ⟨_, hst, by rw [hrun]; exact ho', hgr _, hsz _⟩

theorem gb_undrew {u W : World} {r : Option Nat} (h : u.drew.grownBy W r) : u.grownBy W r := ⟨h.os, h.tape, h.output, h.size, h.block⟩
theorem cg_wrap (x : Int) : Cg (wrap64 x) x := ⟨-((x + 9223372036854775808) / 18446744073709551616), by unfold wrap64 M64; omega⟩
set_option maxRecDepth 100000 in
set_option maxHeartbeats 1000000 in
theorem add_any (b n d : Nat) (D : DU) (P : Pl) (e : List Int) (c : Int) (w : World) (hown : OwnMp w b n D) (hp : PolM d D P) (he : K7 d e) (hd : d ≤ 1000000) (hn : n < 1000000000000000) :
    Calls Tryz.prog 90 #[.map (some b), kv e, .int .i64 c] w fun e' w' => e' = .returned (.tuple #[]) ∧ ∃ D', OwnMp w' b (n + 1) D' ∧ PolM d D' (P ++ [(e, c)]) ∧ w.grownBy w' (some b) := by
  have hkey := keyOf_kv he hd
  obtain ⟨k0, hk0⟩ : ∃ k, k = kl e := ⟨_, rfl⟩
  have hadd := fun c0 s => PolM.add hp hd he (c0 := c0) (c := c) (s := s)
  rw [← hk0] at hkey hadd
  have Hadd := Lib.hid hadd
  clear hadd hk0
  obtain ⟨hl, hr⟩ := he
  match e, hl with
  | [a0, a1, a2, a3, a4, a5, a6], _ =>
  clear hr
  have hown1 : OwnMp (w.alloc (.cells #[.int .i64 a0, .int .i64 a1, .int .i64 a2, .int .i64 a3, .int .i64 a4, .int .i64 a5, .int .i64 a6] 106)).drew b n D := hown.alloc _
  have Hg0 := Lib.hid (World.grownBy_alloc w (.cells #[.int .i64 a0, .int .i64 a1, .int .i64 a2, .int .i64 a3, .int .i64 a4, .int .i64 a5, .int .i64 a6] 106) none)
  have hbw := hown.lt
  have hq := heap_alloc_top w (.cells #[.int .i64 a0, .int .i64 a1, .int .i64 a2, .int .i64 a3, .int .i64 a4, .int .i64 a5, .int .i64 a6] 106)
  obtain ⟨u, hu⟩ : ∃ u, u = w.alloc (.cells #[.int .i64 a0, .int .i64 a1, .int .i64 a2, .int .i64 a3, .int .i64 a4, .int .i64 a5, .int .i64 a6] 106) := ⟨_, rfl⟩
  obtain ⟨B, hB⟩ : ∃ B, B = w.heap.size := ⟨_, rfl⟩
  rw [← hu] at hown1 Hg0 hq
  have hkey' : keyOf Tryz.prog 106 (.agg #[.int .i64 a0, .int .i64 a1, .int .i64 a2, .int .i64 a3, .int .i64 a4, .int .i64 a5, .int .i64 a6]) = some k0 := hkey
  obtain ⟨c0, st, W1, hl0, hat, hent, hl1, hg1, hsz1, hst⟩ := add_facts hown1 hn hkey'
  obtain ⟨s, hs⟩ : ∃ s, s = wrap64 (c0 + c) := ⟨_, rfl⟩
  show Calls Tryz.prog 90 #[.map (some b), .agg #[.int .i64 a0, .int .i64 a1, .int .i64 a2, .int .i64 a3, .int .i64 a4, .int .i64 a5, .int .i64 a6], .int .i64 c] w _
  go_enter Tryz.func90, Tryz.ntmps90
  go_wp2_with fail
  rw [← hu, ← hB]
  rw [← hB] at hq hbw
  obtain ⟨f0, f1, f2, f3, f4, f5, f6, _, _⟩ := blk7 (w := u.drew) hq
  have hq1 : W1.heap[B]? = some (.cells #[.int .i64 a0, .int .i64 a1, .int .i64 a2, .int .i64 a3, .int .i64 a4, .int .i64 a5, .int .i64 a6] 106 (0, 0)) := (hg1.block B (Array.getElem?_eq_some_iff.1 hq).1 (by intro h; injection h with h; omega)).trans hq
  obtain ⟨g0, g1, g2, g3, g4, g5, g6, _, _⟩ := blk7 hq1
  obtain ⟨W2, hst2, ho2, hg2, hsz2⟩ := hst s (by rw [hs]; exact wrap64_wf _)
  have hq2 : W2.heap[B]? = some (.cells #[.int .i64 a0, .int .i64 a1, .int .i64 a2, .int .i64 a3, .int .i64 a4, .int .i64 a5, .int .i64 a6] 106 (0, 0)) := (hg2.block B (Array.getElem?_eq_some_iff.1 hq).1 (by intro h; injection h with h; omega)).trans hq
  obtain ⟨h0, h1, h2, h3, h4, h5, h6, _, _⟩ := blk7 hq2
  rw [hs] at hst2
  have Hown1 := Lib.hid hown1
  have Hst := Lib.hid hst
  have Hat := Lib.hid hat
  have Ho2 := Lib.hid ho2
  have Hg2 := Lib.hid hg2
  have Hs := Lib.hid hs
  have Hhu := Lib.hid hu
  have Hq2 := Lib.hid hq2
  have Htd := Lib.hid hp.tidy
  clear hown hown1 hst hat hg1 hu hq hq1 hq2 hg2 ho2 hs hp hbw hkey hB
  go_region
  have hown2 := Ho2.out
  obtain ⟨c1, hl2, hat2, _⟩ := hown2.lookup_int klaw und41 undI (zeroI _) hkey'
  have hc1 : c1 = s := by
    have hk : WideAt.IsKeyLit k0 := klaw.key hkey'
    rw [atKey_put_same Htd.out.isMap hk] at hat2
    injection hat2 with hat2
    injection hat2 with _ hat2
    exact hat2.symm
  subst hc1
  have hws : Cg c1 (c0 + c) := by rw [Hs.out]; exact cg_wrap _
  have hfin : ∀ (W : World), OwnMp W b (n + 1) (addD D k0 c1) → W2.grownBy W (some b) → ∃ D', OwnMp W b (n + 1) D' ∧ PolM d D' (P ++ [([a0, a1, a2, a3, a4, a5, a6], c)]) ∧ w.grownBy W (some b) := fun W h1 h2 =>
    ⟨_, h1, Hadd.out c0 c1 Hat.out hws, ((Hg0.out.but (some b)).trans (gb_undrew Hg2.out)).trans h2⟩
  have Hfin := Lib.hid hfin
  clear hfin hws hat2 hown2
  by_cases hz : c1 = 0
  · have hz' : (c1 == 0) = true := by simp [hz]
    have Hz := Lib.hid hz
    clear hz
    go_wp2_with (first | (at_delete; refine wpList_delete_own _ rfl _ _ 97 106 rfl 3 klaw und41 _ b (n + 1) _ rfl Ho2.out _ _ rfl hkey' ?_; intro w3 hown3 hturn3) | fail)
    go_end0
    exact ⟨rfl, Hfin.out _ (by unfold addD; rw [if_pos Hz.out]; exact hown3) hturn3.grown⟩
  · have hz' : (c1 == 0) = false := by simp [hz]
    go_wp2_with fail
    go_end0
    exact ⟨rfl, Hfin.out _ (by unfold addD; rw [if_neg hz]; exact Ho2.out) (World.grownBy.refl _ _)⟩

end Go.Proofs.YtnpghgpejnlebaaGreat

namespace Go.Proofs.YtnpghgpejnlebaaGreat
set_option linter.all false
set_option maxRecDepth 100000
open Go.RowKit Go.Maps Go.WideMaps Go.WideElems Go.MapKept Go.ChangeMaps Go.ChangeShapes

theorem PolM.alt {d : Nat} {D : DU} {P Q : Pl} (h : PolM d D P) (hq : ∀ g, Cg (Ev P g) (Ev Q g)) : PolM d D Q := ⟨h.tidy, h.keys, fun g => (h.sum g).trans (hq g), h.nz⟩
abbrev RanP (w : World) (b r n : Nat) (D : DU) (left : Lit → Bool) (cnt : Nat) : Prop := w.ranges Tryz.prog 106 (plainElem (H := Unit) Tryz.prog 3) b r n D left cnt

section
variable {P0 : Program} (w : World) {ops : Array Oper} {rest : List Oper} {o : Oper} {a : Act} {Q : Exit → Act → World → Prop}
theorem wpList_next_poly (hg : o.guard = none) (it : Operand) (hop : o.op = Op.next it false) (b r n d : Nat) (D : DU) (P : Pl) (left : Lit → Bool) (cnt : Nat)
    (hit : a.eval it = .pointer (some ⟨r, 0, none⟩)) (h : RanP w b r n D left cnt) (hp : PolM d D P) (hd : d ≤ 1000000) (hleft : ∀ l, left l = true → has D l = true)
    (hDone : cnt = 0 → (∀ kl, left kl = false) → wpList Tryz.prog ops Q rest (a.put o.dst (.tuple #[.bool false])) w)
    (hMore : ∀ (a0 a1 a2 a3 a4 a5 a6 c : Int) (w' : World) (cnt' : Nat), K7 d [a0, a1, a2, a3, a4, a5, a6] → left (kl [a0, a1, a2, a3, a4, a5, a6]) = true → (Lit.int .i64 c).wf = true →
      D.atKey (kl [a0, a1, a2, a3, a4, a5, a6]) (.lit (.int .i64 0)) = .lit (.int .i64 c) → RanP w' b r n D (fun z => left z && !z.sameKey (kl [a0, a1, a2, a3, a4, a5, a6])) cnt' → cnt' < cnt →
      w.grownBy w' (some r) → w'.heap.size = w.heap.size →
      (Instr.entry (.pointer (some ⟨r, 0, none⟩))).run Tryz.prog w' = .ok (.tuple #[.agg #[.int .i64 a0, .int .i64 a1, .int .i64 a2, .int .i64 a3, .int .i64 a4, .int .i64 a5, .int .i64 a6], .int .i64 c]) w' →
      wpList Tryz.prog ops Q rest (a.put o.dst (.tuple #[.bool true, .agg #[.int .i64 a0, .int .i64 a1, .int .i64 a2, .int .i64 a3, .int .i64 a4, .int .i64 a5, .int .i64 a6], .int .i64 c])) w') :
    wpList Tryz.prog ops Q (o :: rest) a w :=
  wpList_next_ranges w hg it hop 106 klaw (plainElem Tryz.prog 3) (fun x : Value => x) (Value.int .i64) (fun key _ _ => ⟨key, rfl⟩) (fun v y hv => by obtain ⟨c, rfl, _⟩ := plainElem_int_inv undI hv; exact ⟨c, rfl⟩)
    b r n D left cnt hit h hDone (fun x c l y w' cnt' hkey hlk hv hat hrg hlt hgr hsz hen => by
      obtain ⟨e, rfl, he⟩ := hp.keys l (hleft l hlk)
      obtain rfl := klaw.inj hkey (keyOf_kv he hd)
      obtain ⟨c', ec, rfl, hwc⟩ := plainElem_int_inv undI hv
      cases ec
      obtain ⟨hl, hr⟩ := he
      match e, hl with
      | [a0, a1, a2, a3, a4, a5, a6], hl => exact hMore a0 a1 a2 a3 a4 a5 a6 c w' cnt' ⟨hl, hr⟩ hlk hwc (hat _) hrg hlt hgr hsz hen)
end

/-- what is gathered and what is left add up -/
def Gath (D : DU) (P : Pl) (T : (List Int → Int) → List Int → Int) (left : Lit → Bool) (A : Pl) : Prop :=
  ∀ g : List Int → Int, Cg (Ev A g + SmK D left fun l => T g (unkl l)) (Ev P (T g))
theorem hm_of {w : World} {b n : Nat} {D : DU} (h : OwnMp w b n D) : ∀ es, D = .map es → ∀ p ∈ es, WideAt.IsKeyLit p.1 := fun es he p hp => by
  obtain ⟨es', h1, _, h3⟩ := h.entries klaw
  rw [he] at h1
  injection h1 with h1
  subst h1
  exact h3 p hp
theorem Gath.start {w : World} {b n d : Nat} {D : DU} {P : Pl} {T : (List Int → Int) → List Int → Int} (h : OwnMp w b n D) (hp : PolM d D P) : Gath D P T (has D) [] := fun g => by
  have e := SmK_all hp.tidy (fun l hl => by obtain ⟨e, rfl, _⟩ := hp.keys l hl; exact kl_lit e) (hm_of h) (fun l => T g (unkl l))
  rw [e]
  simpa [Ev] using hp.sum (T g)
theorem Gath.step {d : Nat} {D : DU} {P : Pl} {T : (List Int → Int) → List Int → Int} {left : Lit → Bool} {A : Pl} (h : Gath D P T left A) (ht : Tidy D) {e : List Int} (he : K7 d e) (hd : d ≤ 1000000) (hl : left (kl e) = true) {c : Int}
    (hat : D.atKey (kl e) (.lit (.int .i64 0)) = .lit (.int .i64 c)) {A' : Pl} (hA : ∀ g, Cg (Ev A' g) (Ev A g + c * T g e)) : Gath D P T (fun z => left z && !z.sameKey (kl e)) A' := fun g => by
  have h0 := h g
  rw [SmK_step ht (kl_lit e) hl, hat] at h0
  simp only [coef, unkl_kl he hd] at h0
  refine ((hA g).add (Cg.refl _)).trans ?_
  rw [Int.add_assoc]
  exact h0
theorem Gath.end {D : DU} {P : Pl} {T : (List Int → Int) → List Int → Int} {left : Lit → Bool} {A : Pl} (h : Gath D P T left A) (hl : ∀ l, left l = false) : ∀ g, Cg (Ev A g) (Ev P (T g)) := fun g => by
  have := h g
  rw [SmK_none hl] at this
  simpa using this

/-- a polynomial as a value -/
def PolV (w : World) (v : Value) (d n : Nat) (P : Pl) : Prop := ∃ b D, v = .map (some b) ∧ OwnMp w b n D ∧ PolM d D P
theorem PolV.below {w w' : World} {v : Value} {d n : Nat} {P : Pl} (h : PolV w v d n P) (hb : Below w.heap.size w w') : PolV w' v d n P := by
  obtain ⟨b, D, rfl, h1, h2⟩ := h
  have hlt := h1.lt
  obtain ⟨es, clock, hb', F, hs, hD⟩ := h1
  exact ⟨b, D, rfl, ⟨es, clock, (hb.block b hlt).trans hb', F, hs, hD⟩, h2⟩
theorem PolV.alt {w : World} {v : Value} {d n : Nat} {P Q : Pl} (h : PolV w v d n P) (hq : ∀ g, Cg (Ev P g) (Ev Q g)) : PolV w v d n Q := by
  obtain ⟨b, D, rfl, h1, h2⟩ := h
  exact ⟨b, D, rfl, h1, h2.alt hq⟩
theorem PolV.mono {w : World} {v : Value} {d n d' n' : Nat} {P : Pl} (h : PolV w v d n P) (hd : d ≤ d') (hn : n ≤ n') : PolV w v d' n' P := by
  obtain ⟨b, D, rfl, h1, h2⟩ := h
  exact ⟨b, D, rfl, h1.mono hn, h2.mono hd⟩

end Go.Proofs.YtnpghgpejnlebaaGreat

namespace Go.Proofs.YtnpghgpejnlebaaGreat
set_option linter.all false
set_option maxRecDepth 100000
open Go.RowKit Go.Maps Go.WideMaps Go.WideElems Go.MapKept Go.ChangeMaps Go.ChangeShapes

def sclP (k : Int) (P : Pl) : Pl := P.map fun p => (p.1, k * p.2)
theorem Ev_scl (k : Int) (P : Pl) (g : List Int → Int) : Ev (sclP k P) g = Ev P fun e => k * g e := by
  induction P with
  | nil => rfl
  | cons p l ih =>
    show k * p.2 * g p.1 + Ev (sclP k l) g = p.2 * (k * g p.1) + Ev l _
    rw [ih, Int.mul_comm k p.2, Int.mul_assoc]
theorem Ev_mul (k : Int) (P : Pl) (g : List Int → Int) : (Ev P fun e => k * g e) = k * Ev P g := by
  induction P with
  | nil => simp [Ev]
  | cons p l ih =>
    show p.2 * (k * g p.1) + Ev l _ = k * (p.2 * g p.1 + Ev l g)
    rw [ih, Int.mul_add, Int.mul_left_comm]
theorem has_sub {left : Lit → Bool} {D : DU} {k : Lit} (h : ∀ l, left l = true → has D l = true) : ∀ l, (left l && !l.sameKey k) = true → has D l = true := fun l hl => h l (by simp at hl; exact hl.1)

set_option maxRecDepth 100000 in
set_option maxHeartbeats 4000000 in
theorem plus_any (u v : Value) (k : Int) (d nf ng : Nat) (P Q : Pl) (w : World) (hf : PolV w u d nf P) (hg : PolV w v d ng Q) (hd : d ≤ 1000000) (hn : nf + ng < 1000000000000000) :
    Calls Tryz.prog 78 #[u, .int .i64 k, v] w fun e w' => ∃ u', e = .returned u' ∧ PolV w' u' d (nf + ng) (P ++ sclP k Q) ∧ Below w.heap.size w w' := by
  obtain ⟨bf, Df, rfl, hf1, hf2⟩ := hf
  obtain ⟨bg, Dg, rfl, hg1, hg2⟩ := hg
  have hmm := @run_makeMap Tryz.prog
  have hblf := hf1.lt
  have hblg := hg1.lt
  have hszf := hf1.size_le
  have hszg := hg1.size_le
  have e1 : (w.alloc (.map #[] 0)).heap.size = w.heap.size + 1 := by simp
  have HF2 := Lib.hid hf2
  have HG2 := Lib.hid hg2
  obtain ⟨B, hB⟩ : ∃ B, B = w.heap.size := ⟨_, rfl⟩
  have HB := Lib.hid hB
  have hG0 := Lib.hid (Gath.start (T := fun g => g) hf1 hf2)
  clear hf2 hg2
  go_enter Tryz.func78, Tryz.ntmps78
  go_wp2_with (first
    | (at_range; refine wpList_range_own _ rfl _ 97 rfl 106 3 klaw und41 _ bf nf _ rfl (hf1.alloc _) ?_; intro w0 hrg0 hg0 hs0)
    | fail)
  go_frame
  rw [e1] at hrg0 hs0 ⊢
  have hown0 : OwnMp w0 w.heap.size 0 (.map []) := (World.ownsMap_made _ _ _ _).kept hg0 (by simp)
  have hbel0 : Below w.heap.size w w0 := ((Below.refl _ _).alloc (Nat.le_refl _) _).grown hg0 (by simp) (fun j hj => by cases hj)
  rw [← hB] at hrg0 hs0 hown0 hbel0 hblf hblg ⊢
  have Hbel0 := Lib.hid hbel0
  clear hbel0 hg0 e1 hB
  go_loopg [8, 9] (Maps.size Df) (fun g s8 s9 wr => ∃ (left : Lit → Bool) (Dout : DU) (A : Pl), RanP wr bf (B + 1) nf Df left g ∧ g ≤ Maps.size Df ∧ (∀ l, left l = true → has Df l = true) ∧
      OwnMp wr B (Maps.size Df - g) Dout ∧ Hid (PolM d Dout A) ∧ Hid (Gath Df P (fun g => g) left A) ∧ Hid (Below B w wr))
  case atStart => exact ⟨_, .map [], [], hrg0, Nat.le_refl _, fun _ h => h, hown0.mono (Nat.zero_le _), Lib.hid (PolM.empty _), hG0, Hbel0⟩
  case round =>
    obtain ⟨left, Dout, A, hrg, hgs, hleft, hout, hpm, hga, hbel⟩ := hrel
    obtain ⟨wx, rfl⟩ : ∃ x : World, x = wr := ⟨_, rfl⟩
    have hpm0 := hpm.out
    go_wp2_with (first
      | (at_next; refine wpList_next_poly _ rfl _ rfl bf (B + 1) nf d Df P left gk rfl hrg HF2.out hd hleft ?_ ?_)
      | fail)
    · intro hc0 hl0
      have hend := (hga.out.end hl0)
      have Hpm := Lib.hid (hpm.out.alt (Q := P) hend)
      have hg1x : OwnMp wx bg ng Dg := by
        obtain ⟨es, clock, hb', F, hs, hD⟩ := hg1
        exact ⟨es, clock, (hbel.out.block bg hblg).trans hb', F, hs, hD⟩
      have hG1 := Lib.hid (Gath.start (T := fun g e => k * g e) hg1x HG2.out)
      have Hbel := Lib.hid hbel.out
      have hout1 : OwnMp wx B nf Dout := hout.mono (by omega)
      have hBx := hout.lt
      clear hrg hleft hout hpm hga hbel hend hG0 hgs hc0 hl0 hf1 hg1 hszf hrg0 hown0 hs0
      go_wp2_with (first
        | (at_range; refine wpList_range_own _ rfl _ 97 rfl 106 3 klaw und41 _ bg ng _ rfl hg1x ?_; intro w0' hrg0 hg0 hs0)
        | fail)
      go_frame
      obtain ⟨r, hr⟩ : ∃ r, r = wx.heap.size := ⟨_, rfl⟩
      have hown0 := hout1.kept hg0 (by simp)
      have Hbel0 := Lib.hid (Hbel.out.grown hg0 (by omega) (fun j hj => by cases hj))
      rw [← hr] at hrg0 hs0 hBx ⊢
      clear hg0 hr hout1 hg1x Hbel
      go_loopg [10, 11] (Maps.size Dg) (fun g s10 s11 wr => ∃ (left : Lit → Bool) (Dout : DU) (A : Pl), RanP wr bg r ng Dg left g ∧ g ≤ Maps.size Dg ∧ (∀ l, left l = true → has Dg l = true) ∧
          OwnMp wr B (nf + (Maps.size Dg - g)) Dout ∧ Hid (PolM d Dout (P ++ A)) ∧ Hid (Gath Dg Q (fun g e => k * g e) left A) ∧ Hid (Below B w wr))
      case atStart => exact ⟨_, _, [], hrg0, Nat.le_refl _, fun _ h => h, hown0.mono (by omega), by rw [List.append_nil]; exact Hpm, hG1, Hbel0⟩
      case round =>
        obtain ⟨left, Dout, A, hrg, hgs, hleft, hout, hpm, hga, hbel⟩ := hrel
        obtain ⟨wy, rfl⟩ : ∃ x : World, x = wr := ⟨_, rfl⟩
        go_wp2_with (first
          | (at_next; refine wpList_next_poly _ rfl _ rfl bg r ng d Dg Q left gk rfl hrg HG2.out hd hleft ?_ ?_)
          | fail)
        · intro hc0 hl0
          have hend := (hga.out.end hl0)
          go_wp2_with fail
          go_ret
          refine ⟨_, rfl, ⟨B, Dout, rfl, hout.mono (by omega), hpm.out.alt fun g => ?_⟩, HB.out ▸ hbel.out⟩
          rw [Ev_append, Ev_append, Ev_scl]
          exact (Cg.refl _).add (hend g)
        · intro a0 a1 a2 a3 a4 a5 a6 c w1 cnt1 hK hlx hwf hat hrg1 hlt hgr1 hs1 hen
          have Hat := Lib.hid hat
          have Hgr1 := Lib.hid hgr1
          have hout1 := hout.kept hgr1 (by intro h; injection h with h; omega)
          have hBy := hout.lt
          clear hat hgr1
          go_wp2_with fail
          refine (add_any B (nf + (Maps.size Dg - gk)) d Dout (P ++ A) [a0, a1, a2, a3, a4, a5, a6] (wrap64 (k * c)) _ (hout1.alloc _) hpm.out hK hd (by omega)).mono ?_
          rintro e w2 ⟨rfl, D2, ho2, hp2, hg2⟩
          have hrg2 := (hrg1.alloc _).kept hg2 (by intro h; injection h with h; omega) (by intro h; injection h with h; omega)
          have Hp2 := Lib.hid hp2
          have Hb2 := Lib.hid (((hbel.out.grown Hgr1.out (by omega) (fun j hj => by cases hj; omega)).alloc (by omega) _).grown hg2 (by simp; omega) (fun j hj => by cases hj; omega))
          clear hp2 hg2
          go_wp2_with fail
          go_roundg cnt1
          case measure => exact hlt
          case rel =>
            refine ⟨_, D2, A ++ [([a0, a1, a2, a3, a4, a5, a6], wrap64 (k * c))], hrg2, by omega, has_sub hleft, ho2.mono (by omega), by rw [← List.append_assoc]; exact Hp2, Lib.hid (hga.out.step HG2.out.tidy hK hd hlx Hat.out fun g => ?_), Hb2⟩
            rw [Ev_append]
            refine (Cg.refl _).add ?_
            simp only [Ev, Int.add_zero]
            rw [Int.mul_left_comm, ← Int.mul_assoc]
            exact (cg_wrap _).mul (Cg.refl _)
    · intro a0 a1 a2 a3 a4 a5 a6 c w1 cnt1 hK hlx hwf hat hrg1 hlt hgr1 hs1 hen
      have Hat := Lib.hid hat
      have Hgr1 := Lib.hid hgr1
      have hout1 := hout.kept hgr1 (by intro h; injection h with h; omega)
      have hBx := hout.lt
      clear hat hgr1 hpm0
      go_wp2_with fail
      refine (add_any B (Maps.size Df - gk) d Dout A [a0, a1, a2, a3, a4, a5, a6] c _ (hout1.alloc _) hpm.out hK hd (by omega)).mono ?_
      rintro e w2 ⟨rfl, D2, ho2, hp2, hg2⟩
      have hrg2 := (hrg1.alloc _).kept hg2 (by intro h; injection h with h; omega) (by intro h; injection h with h; omega)
      have Hp2 := Lib.hid hp2
      have Hb2 := Lib.hid (((hbel.out.grown Hgr1.out (by omega) (fun j hj => by cases hj; omega)).alloc (by omega) _).grown hg2 (by simp; omega) (fun j hj => by cases hj; omega))
      clear hp2 hg2
      go_wp2_with fail
      go_roundg cnt1
      case measure => exact hlt
      case rel =>
        refine ⟨_, D2, A ++ [([a0, a1, a2, a3, a4, a5, a6], c)], hrg2, by omega, has_sub hleft, ho2.mono (by omega), Hp2, Lib.hid (hga.out.step HF2.out.tidy hK hd hlx Hat.out fun g => ?_), Hb2⟩
        rw [Ev_append]
        exact (Cg.refl _).add (Cg.of _ _ (by simp [Ev]))

end Go.Proofs.YtnpghgpejnlebaaGreat

namespace Go.Proofs.YtnpghgpejnlebaaGreat
set_option linter.all false
set_option maxRecDepth 100000
open Go.RowKit Go.Maps Go.WideMaps Go.WideElems Go.MapKept Go.ChangeMaps Go.ChangeShapes

def rsE (i : Nat) (e : List Int) : List Int := e.set i (e.getD i 0 + 1)
def rsP (i : Nat) (P : Pl) : Pl := P.map fun p => (rsE i p.1, p.2)
theorem Ev_rs (i : Nat) (P : Pl) (g : List Int → Int) : Ev (rsP i P) g = Ev P fun e => g (rsE i e) := by
  induction P with
  | nil => rfl
  | cons p l ih =>
    show p.2 * g (rsE i p.1) + Ev (rsP i l) g = p.2 * g (rsE i p.1) + Ev l _
    rw [ih]
theorem rsE_inj {i : Nat} {e e' : List Int} (hi : i < 7) (h1 : e.length = 7) (h2 : e'.length = 7) (h : rsE i e = rsE i e') : e = e' := by
  refine List.ext_getElem (by omega) fun j hj hj' => ?_
  have := congrArg (fun l => l.getD j 0) h
  unfold rsE at this
  simp only [List.getD_eq_getElem?_getD, List.getElem?_set] at this
  by_cases e1 : i = j
  · subst e1
    simp [h1, h2, hi, hj, hj'] at this
    omega
  · simpa [e1, hj, hj'] using this
theorem K7.rs {d i : Nat} {e : List Int} (h : K7 d e) (hi : i < 7) : K7 (d + 1) (rsE i e) := by
  refine ⟨by unfold rsE; simpa using h.1, fun x hx => ?_⟩
  rcases List.mem_or_eq_of_mem_set hx with hx | rfl
  · have := h.2 x hx; omega
  · have := h.2 (e.getD i 0) (by rw [List.getD_eq_getElem?_getD, List.getElem?_eq_getElem (by rw [h.1]; exact hi)]; exact List.getElem_mem _)
    omega
theorem PolM.putNew {d : Nat} {D : DU} {P : Pl} (h : PolM d D P) (hd : d ≤ 1000000) {e : List Int} (he : K7 d e) {c : Int} (hn : has D (kl e) = false) (hc : c ≠ 0) : PolM d (D.put (kl e) (.lit (.int .i64 c))) (P ++ [(e, c)]) := by
  refine ⟨h.tidy.put (kl_lit e) _, fun l hl => ?_, fun g => ?_, fun l hl z => ?_⟩
  · by_cases hk : l = kl e
    · exact ⟨e, hk, he⟩
    · rw [has_put_other hk] at hl
      exact h.keys l hl
  · rw [SmD_put h.tidy (k := kl e) (fun l => g (unkl l)) (.lit (.int .i64 c)), del_of_not_has hn, Ev_append]
    simp only [coef, unkl_kl he hd]
    exact (h.sum g).add (Cg.of _ _ (by simp [Ev]))
  · by_cases hk : l = kl e
    · rw [hk, atKey_put_same h.tidy.isMap (kl_lit e)]
      intro e2
      injection e2 with e2
      injection e2 with _ e2
      exact hc e2
    · rw [has_put_other hk] at hl
      rw [atKey_put_other hk]
      exact h.nz l hl z
/-- the keys of what is gathered come of those that are gone -/
def RsK (i d : Nat) (left : Lit → Bool) (Dout : DU) : Prop := ∀ l, has Dout l = true → ∃ e, K7 d e ∧ l = kl (rsE i e) ∧ left (kl e) = false
theorem RsK.step {i d : Nat} {left : Lit → Bool} {Dout : DU} (h : RsK i d left Dout) (hi : i < 7) (hd : d + 1 ≤ 1000000) {e : List Int} (he : K7 d e) (hl : left (kl e) = true) (c : Int) :
    has Dout (kl (rsE i e)) = false ∧ RsK i d (fun z => left z && !z.sameKey (kl e)) (Dout.put (kl (rsE i e)) (.lit (.int .i64 c))) := by
  refine ⟨?_, fun l hl' => ?_⟩
  · cases hh : has Dout (kl (rsE i e)) with
    | false => rfl
    | true =>
      obtain ⟨e', h1, h2, h3⟩ := h _ hh
      have := rsE_inj hi he.1 h1.1 (kl_inj (he.rs hi) hd (h1.rs hi) hd h2)
      subst this
      rw [hl] at h3; cases h3
  · by_cases hk : l = kl (rsE i e)
    · exact ⟨e, he, hk, by simp [WideAt.sameKey_self (kl_lit e)]⟩
    · rw [has_put_other hk] at hl'
      obtain ⟨e', h1, h2, h3⟩ := h _ hl'
      exact ⟨e', h1, h2, by simp [h3]⟩

set_option maxRecDepth 100000 in
set_option maxHeartbeats 8000000 in
theorem raised_any (u : Value) (i d nf : Nat) (P : Pl) (w : World) (hf : PolV w u d nf P) (hi : i < 7) (hd : d < 1000000) (hn : nf < 1000000000000000) :
    Calls Tryz.prog 79 #[u, .int .i64 (i : Int)] w fun e w' => ∃ u', e = .returned u' ∧ PolV w' u' (d + 1) nf (rsP i P) ∧ Below w.heap.size w w' := by
  obtain ⟨bf, Df, rfl, hf1, hf2⟩ := hf
  have hmm := @run_makeMap Tryz.prog
  have hblf := hf1.lt
  have hszf := hf1.size_le
  have e1 : (w.alloc (.map #[] 0)).heap.size = w.heap.size + 1 := by simp
  have HF2 := Lib.hid hf2
  obtain ⟨B, hB⟩ : ∃ B, B = w.heap.size := ⟨_, rfl⟩
  have HB := Lib.hid hB
  have hG0 := Lib.hid (Gath.start (T := fun g e => g (rsE i e)) hf1 hf2)
  have hi' : i = 0 ∨ i = 1 ∨ i = 2 ∨ i = 3 ∨ i = 4 ∨ i = 5 ∨ i = 6 := by omega
  obtain ⟨ii, hii⟩ : ∃ ii : Nat, ii = i := ⟨_, rfl⟩
  have Hii := Lib.hid hii
  rw [← hii] at hG0
  have hi0 : ii < 7 := by omega
  show Calls Tryz.prog 79 #[.map (some bf), .int .i64 (i : Int)] w fun e w' => ∃ u', e = .returned u' ∧ PolV w' u' (d + 1) nf (rsP i P) ∧ Below w.heap.size w w'
  conv in rsP i P => rw [← hii]
  clear hf2 hii
  go_enter Tryz.func79, Tryz.ntmps79
  go_wp2_with (first
    | (at_range; refine wpList_range_own _ rfl _ 97 rfl 106 3 klaw und41 _ bf nf _ rfl (hf1.alloc _) ?_; intro w0 hrg0 hg0 hs0)
    | fail)
  go_frame
  rw [e1] at hrg0 hs0 ⊢
  have hown0 : OwnMp w0 w.heap.size 0 (.map []) := (World.ownsMap_made _ _ _ _).kept hg0 (by simp)
  have hbel0 : Below w.heap.size w w0 := ((Below.refl _ _).alloc (Nat.le_refl _) _).grown hg0 (by simp) (fun j hj => by cases hj)
  rw [← hB] at hrg0 hs0 hown0 hbel0 hblf ⊢
  have Hbel0 := Lib.hid hbel0
  clear hbel0 hg0 e1 hB
  go_loopg [6, 7] (Maps.size Df) (fun g s6 s7 wr => ∃ (left : Lit → Bool) (Dout : DU) (A : Pl), RanP wr bf (B + 1) nf Df left g ∧ g ≤ Maps.size Df ∧ (∀ l, left l = true → has Df l = true) ∧
      OwnMp wr B (Maps.size Df - g) Dout ∧ Hid (PolM (d + 1) Dout A) ∧ Hid (Gath Df P (fun g e => g (rsE ii e)) left A) ∧ Hid (RsK ii d left Dout) ∧ Hid (Below B w wr))
  case atStart => exact ⟨_, .map [], [], hrg0, Nat.le_refl _, fun _ h => h, hown0.mono (Nat.zero_le _), Lib.hid (PolM.empty _), hG0, Lib.hid (fun l h => by simp [has] at h), Hbel0⟩
  case round =>
    obtain ⟨left, Dout, A, hrg, hgs, hleft, hout, hpm, hga, hrs, hbel⟩ := hrel
    obtain ⟨wx, rfl⟩ : ∃ x : World, x = wr := ⟨_, rfl⟩
    go_wp2_with (first
      | (at_next; refine wpList_next_poly _ rfl _ rfl bf (B + 1) nf d Df P left gk rfl hrg HF2.out (by omega) hleft ?_ ?_)
      | fail)
    · intro hc0 hl0
      have hend := (hga.out.end hl0)
      go_wp2_with fail
      go_ret
      refine ⟨_, rfl, ⟨B, Dout, rfl, hout.mono (by omega), hpm.out.alt fun g => ?_⟩, HB.out ▸ hbel.out⟩
      rw [Ev_rs]
      exact hend g
    · intro a0 a1 a2 a3 a4 a5 a6 c w1 cnt1 hK hlx hwf hat hrg1 hlt hgr1 hs1 hen
      have Hat := Lib.hid hat
      have Hgr1 := Lib.hid hgr1
      have hout1 := hout.kept hgr1 (by intro h; injection h with h; omega)
      have hBx := hout.lt
      have hKr := hK.rs hi0
      obtain ⟨hnew, hrs2⟩ := hrs.out.step hi0 (by omega) hK hlx c
      have hcn : c ≠ 0 := fun e => HF2.out.nz _ (hleft _ hlx) (.lit (.int .i64 0)) (by rw [hat, e])
      have hpm2 := Lib.hid (hpm.out.putNew (by omega) hKr (c := c) hnew hcn)
      clear hcn
      have hkey := keyOf_kv hKr (by omega)
      have Hrs2 := Lib.hid hrs2
      have b0 := hK.2 a0 (by simp)
      have b1 := hK.2 a1 (by simp)
      have b2 := hK.2 a2 (by simp)
      have b3 := hK.2 a3 (by simp)
      have b4 := hK.2 a4 (by simp)
      have b5 := hK.2 a5 (by simp)
      have b6 := hK.2 a6 (by simp)
      obtain ⟨K, hKK⟩ : ∃ K, K = kl (rsE ii [a0, a1, a2, a3, a4, a5, a6]) := ⟨_, rfl⟩
      rw [← hKK] at hkey hpm2 Hrs2
      clear hat hgr1 hnew hrs2 hKK
      have hiii := Hii.out
      rcases hi' with h0 | h0 | h0 | h0 | h0 | h0 | h0
      all_goals
        subst h0
        rw [hiii] at hkey
        simp only [rsE, kv, List.getD_cons_zero, List.getD_cons_succ, List.set_cons_zero, List.set_cons_succ, List.map_cons, List.map_nil] at hkey
        go_wp2_with (first
          | (at_mapUpdate; refine wpList_mapUpdate_own _ rfl _ _ _ 97 rfl 106 3 klaw und41 _ B _ _ rfl (hout1.alloc _) (by unfold maxLen; omega) _ _ K rfl rfl hkey _ [] (plainElem_int undI hwf) ?_; intro w2 hout2 hg2; go_frame)
          | fail)
        have hrg2 := (hrg1.alloc _).kept hg2 (by intro h; injection h with h; omega) (by intro h; injection h with h; omega)
        have Hb2 := Lib.hid (((hbel.out.grown Hgr1.out (by omega) (fun j hj => by cases hj; omega)).alloc (by omega) _).grown hg2 (by simp; omega) (fun j hj => by cases hj; omega))
        go_roundg cnt1
        case measure => exact hlt
        case rel =>
          refine ⟨_, _, A ++ [(rsE ii [a0, a1, a2, a3, a4, a5, a6], c)], hrg2, by omega, has_sub hleft, hout2.mono (by omega), hpm2, Lib.hid (hga.out.step HF2.out.tidy hK (by omega) hlx Hat.out fun g => ?_), Hrs2, Hb2⟩
          rw [Ev_append]
          exact (Cg.refl _).add (Cg.of _ _ (by simp [Ev]))

end Go.Proofs.YtnpghgpejnlebaaGreat
