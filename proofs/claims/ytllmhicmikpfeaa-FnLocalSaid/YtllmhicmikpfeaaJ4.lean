/-
  A map's entry asked for, and looked up again behind that.
  poly.add: a number added at a key of a map.
  Ranging over a map keyed by seven numbers; plus.
  Slices of classes: copied, measured, compared by the law's own helpers.
  Lists of numbers compared; permutations trimmed: both sides.
  Classes in their order: the list that insertion makes is the only one. Plain.
  Terms in their order: by the last exponent at which they differ, the greater one first. Plain.
  The reference's l1Factorial and l1Decode.
-/
import Derived.Test.YtllmhicmikpfeaaJ3
import Derived.WalkKit
import Derived.BigRegion
import Derived.Test.YtllmhicmikpfeaaJ1
import Derived.Test.YtllmhicmikpfeaaJ2
namespace Go.Proofs.Ytllmhicmikpfeaa
set_option linter.all false
set_option maxRecDepth 100000
open Go.RowKit Go.Maps Go.WideMaps Go.WideElems Go.MapKept Go.ChangeMaps Go.ChangeShapes

section
variable {H : Type} {P : Program} {w : World} {t k e : TypeId} {R : Value → Option (DataW H × List MemPlace)} {b : Nat} {es : Array MapEntry} {clock : Nat}
theorem entry_es (K : KeyLaw P k) (ht : P.underlying t = some (.map k e)) {z : Value} (hz : ∀ u : World, (zeroValue e).run P u = .ok z u) (hb : w.heap[b]? = some (.map es clock)) (F : Fit P k R es clock)
    {key : Value} {kl : Lit} (hkey : keyOf P k key = some kl) {v0 : Value} {st : Nat} {es1 : Array MapEntry} {clock1 : Nat}
    (hrun : (Instr.mapEntry t (.map (some b)) key).run P w = .ok (.tuple #[v0, goInt st]) (setBlock w b (.map es1 clock1))) :
    (es1 = es ∧ ∃ e0 ∈ es.toList, e0.key = key ∧ v0 = e0.val) ∨ (es1 = es.push ⟨key, z, clock⟩ ∧ v0 = z ∧ ∀ x ∈ es.toList, x.key ≠ key) := by
  have hs : ∀ {es' : Array MapEntry} {c' : Nat}, setBlock w b (.map es1 clock1) = setBlock w b (.map es' c') → es1 = es' := fun h => by
    have h1 := heap_setBlock_same hb (.map es1 clock1)
    rw [h, heap_setBlock_same hb] at h1
    injection h1 with h1
    injection h1 with h1 _
    exact h1.symm
  rcases K.find w hkey es.toList F.keys with ⟨h1, h2⟩ | ⟨j, e0, h1, h2, h3⟩
  · have e1 : (Instr.mapEntry t (.map (some b)) key).run P w = .ok (.tuple #[z, goInt clock]) (setBlock w b (.map (es.push ⟨key, z, clock⟩) (clock + 1))) := by
      simp [Instr.mapEntry, run_underlying ht, MapKept.run_getObj_map hb, K.check w false hkey, h1, hz, MapKept.run_setObj_map _ hb, Result.andThen, setBlock]
    rw [e1] at hrun
    injection hrun with hv hw
    injection hv with hv
    have : z = v0 := by
      have := congrArg (fun a => a[0]?) hv
      simpa using this
    exact .inr ⟨hs hw.symm, this.symm, h2⟩
  · have hj : es[j]? = some e0 := by simpa using h2
    have e1 : (Instr.mapEntry t (.map (some b)) key).run P w = .ok (.tuple #[e0.val, goInt e0.born]) (setBlock w b (.map (es.modify j fun e => { e with key := key }) clock)) := by
      simp [Instr.mapEntry, run_underlying ht, MapKept.run_getObj_map hb, K.check w false hkey, h1, hj, h3, K.stays w hkey, MapKept.run_setObj_map _ hb, Result.andThen, setBlock]
    have hsame : es.modify j (fun e => { e with key := key }) = es := by
      apply Array.ext'
      rw [Array.toList_modify, modify_eq_set _ _ _ _ h2]
      have : ({ e0 with key := key } : MapEntry) = e0 := by rw [← h3]
      rw [this]
      exact set_self _ _ _ h2
    rw [e1, hsame] at hrun
    injection hrun with hv hw
    injection hv with hv
    have : e0.val = v0 := by
      have := congrArg (fun a => a[0]?) hv
      simpa using this
    exact .inl ⟨hs hw.symm, e0, List.mem_of_getElem? h2, h3, this.symm⟩
/-- a look-up finds what stands at the one entry of its key -/
theorem look_at (K : KeyLaw P k) (ht : P.underlying t = some (.map k e)) {u : World} (hb : u.heap[b]? = some (.map es clock)) (hks : ∀ x ∈ es.toList, ∃ l, keyOf P k x.key = some l)
    {key : Value} {kl : Lit} (hkey : keyOf P k key = some kl) {v0 : Value} (hv : ∀ x ∈ es.toList, x.key = key → x.val = v0) (hex : ∃ x ∈ es.toList, x.key = key) :
    (Instr.lookup t (.map (some b)) key false).run P u = .ok v0 u := by
  rcases K.find u hkey es.toList hks with ⟨h1, h2⟩ | ⟨j, e0, h1, h2, h3⟩
  · obtain ⟨x, hx, hxk⟩ := hex
    exact absurd hxk (h2 x hx)
  · have e1 := hv e0 (List.mem_of_getElem? h2) h3
    simp [Instr.lookup, run_underlying ht, MapKept.run_getObj_map hb, K.check u _ hkey, h1, e1, Result.andThen]
theorem entry_look (K : KeyLaw P k) (ht : P.underlying t = some (.map k e)) {z : Value} (hz : ∀ u : World, (zeroValue e).run P u = .ok z u) (hb : w.heap[b]? = some (.map es clock)) (F : Fit P k R es clock)
    {key : Value} {kl : Lit} (hkey : keyOf P k key = some kl) {v0 : Value} {st : Nat} {es1 : Array MapEntry} {clock1 : Nat}
    (hrun : (Instr.mapEntry t (.map (some b)) key).run P w = .ok (.tuple #[v0, goInt st]) (setBlock w b (.map es1 clock1))) :
    (Instr.lookup t (.map (some b)) key false).run P (setBlock w b (.map es1 clock1)) = .ok v0 (setBlock w b (.map es1 clock1)) ∧ (Instr.lookup t (.map (some b)) key false).run P w = .ok v0 w := by
  have hne : es.toList.Pairwise (fun x y => x.key ≠ y.key) := ((stamped_iff es clock).1 F.stamped).2.2
  rcases entry_es K ht hz hb F hkey hrun with ⟨rfl, e0, he, hk, rfl⟩ | ⟨rfl, rfl, h2⟩
  · have hall : ∀ x ∈ es1.toList, x.key = key → x.val = e0.val := fun x hx hxk => by rw [entry_eq_of_key hne hx he (hxk.trans hk.symm)]
    exact ⟨look_at K ht (heap_setBlock_same hb _) F.keys hkey hall ⟨e0, he, hk⟩, look_at K ht hb F.keys hkey hall ⟨e0, he, hk⟩⟩
  · refine ⟨look_at K ht (heap_setBlock_same hb _) (fun x hx => ?_) hkey (fun x hx hxk => ?_) ⟨⟨key, v0, clock⟩, by simp, rfl⟩, ?_⟩
    · simp only [Array.toList_push, List.mem_append, List.mem_singleton] at hx
      rcases hx with hx | rfl
      · exact F.keys x hx
      · exact ⟨kl, hkey⟩
    · simp only [Array.toList_push, List.mem_append, List.mem_singleton] at hx
      rcases hx with hx | rfl
      · exact absurd hxk (h2 x hx)
      · rfl
    · rcases K.find w hkey es.toList F.keys with ⟨h1, _⟩ | ⟨j, e0, _, h3, h4⟩
      · simp [Instr.lookup, run_underlying ht, MapKept.run_getObj_map hb, K.check w _ hkey, h1, hz, Result.andThen]
      · exact absurd h4 (h2 e0 (List.mem_of_getElem? h3))
end

end Go.Proofs.Ytllmhicmikpfeaa

namespace Go.Proofs.Ytllmhicmikpfeaa
set_option linter.all false
set_option maxRecDepth 100000
open Go.RowKit Go.Maps Go.WideMaps Go.WideElems Go.MapKept Go.ChangeMaps Go.ChangeShapes

abbrev OwnMp (w : World) (b n : Nat) (D : DU) : Prop := w.ownsMap Try.prog 72 (plainElem (H := Unit) Try.prog 3) b n D

theorem blk7 {w : World} {b : Nat} {x0 x1 x2 x3 x4 x5 x6 : Value} {T : TypeId} (h : w.heap[b]? = some (.cells #[x0, x1, x2, x3, x4, x5, x6] T (0, 0))) :
    w.cell? ⟨b, 0, none⟩ = some x0 ∧ w.cell? ⟨b, 1, none⟩ = some x1 ∧ w.cell? ⟨b, 2, none⟩ = some x2 ∧ w.cell? ⟨b, 3, none⟩ = some x3 ∧ w.cell? ⟨b, 4, none⟩ = some x4 ∧ w.cell? ⟨b, 5, none⟩ = some x5 ∧ w.cell? ⟨b, 6, none⟩ = some x6 ∧ (∀ j, w.frozen? ⟨b, j, none⟩ = false) ∧ b < w.heap.size :=
  ⟨cell_of_blk h rfl, cell_of_blk h rfl, cell_of_blk h rfl, cell_of_blk h rfl, cell_of_blk h rfl, cell_of_blk h rfl, cell_of_blk h rfl, free_of_blk h, (Array.getElem?_eq_some_iff.1 h).1⟩
/-- what the region of poly.add meets -/
theorem add_facts {u : World} {b n : Nat} {D : DU} {key : Value} {k0 : Lit} (hown : OwnMp u b n D) (hn : n < 1000000000000000) (hkey : keyOf Try.prog 72 key = some k0) :
    ∃ (c0 : Int) (st : Nat) (W1 : World), (Instr.lookup 52 (.map (some b)) key false).run Try.prog u = .ok (.int .i64 c0) u ∧
      D.atKey k0 (.lit (.int .i64 0)) = .lit (.int .i64 c0) ∧
      (Instr.mapEntry 52 (.map (some b)) key).run Try.prog u = .ok (.tuple #[.int .i64 c0, .int .i64 (st : Int)]) W1 ∧
      (Instr.lookup 52 (.map (some b)) key false).run Try.prog W1 = .ok (.int .i64 c0) W1 ∧
      u.grownBy W1 (some b) ∧ W1.heap.size = u.heap.size ∧
      ∀ s : Int, (Lit.int .i64 s).wf = true → ∃ W2, (Instr.entryStore 52 (.map (some b)) (.int .i64 (st : Int)) (.int .i64 s)).run Try.prog W1 = .ok () W2 ∧
        OwnMp W2 b (n + 1) (D.put k0 (.lit (.int .i64 s))) ∧ u.grownBy W2 (some b) ∧ W2.heap.size = u.heap.size := by
  have hown' := hown
  obtain ⟨c0, hl0, hat, hw0⟩ := hown.lookup_int klaw und41 undI (zeroI _) hkey
  obtain ⟨es, clock, hb, F, hs, hD⟩ := hown
  obtain ⟨v0, st, es1, clock1, h1, _, h3⟩ := entry_then_store arr7.law und41 zeroI hb F hkey
  have hlk := entry_look arr7.law und41 zeroI hb F hkey h1
  have hv : v0 = .int .i64 c0 := by
    have := hlk.2
    rw [hl0] at this
    injection this with this
    exact this.symm
  subst hv
  have hsz : ∀ o, (setBlock u b o).heap.size = u.heap.size := fun o => by simp [setBlock]
  have hgr : ∀ o, u.grownBy (setBlock u b o) (some b) := fun o => ⟨rfl, rfl, rfl, by rw [hsz]; exact Nat.le_refl _, fun i _ hi => heap_setBlock_other hb _ (fun e => hi (by rw [e]))⟩
  refine ⟨c0, st, _, hl0, hat, h1, hlk.1, hgr _, hsz _, fun s hs => ?_⟩
  obtain ⟨es', clock', hst, hup⟩ := h3 _ (.int .i64 s) (heap_setBlock_same hb _)
  obtain ⟨w', hrun, ho', hg'⟩ := hown'.update klaw und41 (by unfold maxLen; omega) hkey (plainElem_int undI hs)
  rw [hup] at hrun
  injection hrun with _ hrun
  have hh : setBlock (setBlock u b (.map es1 clock1)) b (.map es' clock') = setBlock u b (.map es' clock') := by
    simp [setBlock, Array.setIfInBounds_setIfInBounds]
  rw [hh] at hst
  exact ⟨_, hst, by rw [hrun]; exact ho', hgr _, hsz _⟩

theorem gb_undrew {u W : World} {r : Option Nat} (h : u.drew.grownBy W r) : u.grownBy W r := ⟨h.os, h.tape, h.output, h.size, h.block⟩
theorem cg_wrap (x : Int) : Cg (wrap64 x) x := ⟨-((x + 9223372036854775808) / 18446744073709551616), by unfold wrap64 M64; omega⟩
set_option maxRecDepth 100000 in
set_option maxHeartbeats 1000000 in
theorem add_any (b n d : Nat) (D : DU) (P : Pl) (e : List Int) (c : Int) (w : World) (hown : OwnMp w b n D) (hp : PolM d D P) (he : K7 d e) (hd : d ≤ 1000000) (hn : n < 1000000000000000) :
    Calls Try.prog 75 #[.map (some b), kv e, .int .i64 c] w fun e' w' => e' = .returned (.tuple #[]) ∧ ∃ D', OwnMp w' b (n + 1) D' ∧ PolM d D' (P ++ [(e, c)]) ∧ w.grownBy w' (some b) := by
  have hkey := keyOf_kv he hd
  obtain ⟨k0, hk0⟩ : ∃ k, k = kl e := ⟨_, rfl⟩
  have hadd := fun c0 s => PolM.add hp hd he (c0 := c0) (c := c) (s := s)
  rw [← hk0] at hkey hadd
  have Hadd := Lib.hid hadd
  clear hadd hk0
  obtain ⟨hl, hr⟩ := he
  match e, hl with
  | [a0, a1, a2, a3, a4, a5, a6], _ =>
  clear hr
  have hown1 : OwnMp (w.alloc (.cells #[.int .i64 a0, .int .i64 a1, .int .i64 a2, .int .i64 a3, .int .i64 a4, .int .i64 a5, .int .i64 a6] 72)).drew b n D := hown.alloc _
  have Hg0 := Lib.hid (World.grownBy_alloc w (.cells #[.int .i64 a0, .int .i64 a1, .int .i64 a2, .int .i64 a3, .int .i64 a4, .int .i64 a5, .int .i64 a6] 72) none)
  have hbw := hown.lt
  have hq := heap_alloc_top w (.cells #[.int .i64 a0, .int .i64 a1, .int .i64 a2, .int .i64 a3, .int .i64 a4, .int .i64 a5, .int .i64 a6] 72)
  obtain ⟨u, hu⟩ : ∃ u, u = w.alloc (.cells #[.int .i64 a0, .int .i64 a1, .int .i64 a2, .int .i64 a3, .int .i64 a4, .int .i64 a5, .int .i64 a6] 72) := ⟨_, rfl⟩
  obtain ⟨B, hB⟩ : ∃ B, B = w.heap.size := ⟨_, rfl⟩
  rw [← hu] at hown1 Hg0 hq
  have hkey' : keyOf Try.prog 72 (.agg #[.int .i64 a0, .int .i64 a1, .int .i64 a2, .int .i64 a3, .int .i64 a4, .int .i64 a5, .int .i64 a6]) = some k0 := hkey
  obtain ⟨c0, st, W1, hl0, hat, hent, hl1, hg1, hsz1, hst⟩ := add_facts hown1 hn hkey'
  obtain ⟨s, hs⟩ : ∃ s, s = wrap64 (c0 + c) := ⟨_, rfl⟩
  show Calls Try.prog 75 #[.map (some b), .agg #[.int .i64 a0, .int .i64 a1, .int .i64 a2, .int .i64 a3, .int .i64 a4, .int .i64 a5, .int .i64 a6], .int .i64 c] w _
  go_enter Try.func75, Try.ntmps75
  go_wp2_with fail
  rw [← hu, ← hB]
  rw [← hB] at hq hbw
  obtain ⟨f0, f1, f2, f3, f4, f5, f6, _, _⟩ := blk7 (w := u.drew) hq
  have hq1 : W1.heap[B]? = some (.cells #[.int .i64 a0, .int .i64 a1, .int .i64 a2, .int .i64 a3, .int .i64 a4, .int .i64 a5, .int .i64 a6] 72 (0, 0)) := (hg1.block B (Array.getElem?_eq_some_iff.1 hq).1 (by intro h; injection h with h; omega)).trans hq
  obtain ⟨g0, g1, g2, g3, g4, g5, g6, _, _⟩ := blk7 hq1
  obtain ⟨W2, hst2, ho2, hg2, hsz2⟩ := hst s (by rw [hs]; exact wrap64_wf _)
  have hq2 : W2.heap[B]? = some (.cells #[.int .i64 a0, .int .i64 a1, .int .i64 a2, .int .i64 a3, .int .i64 a4, .int .i64 a5, .int .i64 a6] 72 (0, 0)) := (hg2.block B (Array.getElem?_eq_some_iff.1 hq).1 (by intro h; injection h with h; omega)).trans hq
  obtain ⟨h0, h1, h2, h3, h4, h5, h6, _, _⟩ := blk7 hq2
  rw [hs] at hst2
  have Hown1 := Lib.hid hown1
  have Hst := Lib.hid hst
  have Hat := Lib.hid hat
  have Ho2 := Lib.hid ho2
  have Hg2 := Lib.hid hg2
  have Hs := Lib.hid hs
  have Hhu := Lib.hid hu
  have Hq2 := Lib.hid hq2
  have Htd := Lib.hid hp.tidy
  clear hown hown1 hst hat hg1 hu hq hq1 hq2 hg2 ho2 hs hp hbw hkey hB
  go_region
  have hown2 := Ho2.out
  obtain ⟨c1, hl2, hat2, _⟩ := hown2.lookup_int klaw und41 undI (zeroI _) hkey'
  have hc1 : c1 = s := by
    have hk : WideAt.IsKeyLit k0 := klaw.key hkey'
    rw [atKey_put_same Htd.out.isMap hk] at hat2
    injection hat2 with hat2
    injection hat2 with _ hat2
    exact hat2.symm
  subst hc1
  have hws : Cg c1 (c0 + c) := by rw [Hs.out]; exact cg_wrap _
  have hfin : ∀ (W : World), OwnMp W b (n + 1) (addD D k0 c1) → W2.grownBy W (some b) → ∃ D', OwnMp W b (n + 1) D' ∧ PolM d D' (P ++ [([a0, a1, a2, a3, a4, a5, a6], c)]) ∧ w.grownBy W (some b) := fun W h1 h2 =>
    ⟨_, h1, Hadd.out c0 c1 Hat.out hws, ((Hg0.out.but (some b)).trans (gb_undrew Hg2.out)).trans h2⟩
  have Hfin := Lib.hid hfin
  clear hfin hws hat2 hown2
  by_cases hz : c1 = 0
  · have hz' : (c1 == 0) = true := by simp [hz]
    have Hz := Lib.hid hz
    clear hz
    go_wp2_with (first | (at_delete; refine wpList_delete_own _ rfl _ _ 52 72 rfl 3 klaw und41 _ b (n + 1) _ rfl Ho2.out _ _ rfl hkey' ?_; intro w3 hown3 hturn3) | fail)
    go_end0
    exact ⟨rfl, Hfin.out _ (by unfold addD; rw [if_pos Hz.out]; exact hown3) hturn3.grown⟩
  · have hz' : (c1 == 0) = false := by simp [hz]
    go_wp2_with fail
    go_end0
    exact ⟨rfl, Hfin.out _ (by unfold addD; rw [if_neg hz]; exact Ho2.out) (World.grownBy.refl _ _)⟩

end Go.Proofs.Ytllmhicmikpfeaa

namespace Go.Proofs.Ytllmhicmikpfeaa
set_option linter.all false
set_option maxRecDepth 100000
open Go.RowKit Go.Maps Go.WideMaps Go.WideElems Go.MapKept Go.ChangeMaps Go.ChangeShapes

theorem PolM.alt {d : Nat} {D : DU} {P Q : Pl} (h : PolM d D P) (hq : ∀ g, Cg (Ev P g) (Ev Q g)) : PolM d D Q := ⟨h.tidy, h.keys, fun g => (h.sum g).trans (hq g), h.nz⟩
abbrev RanP (w : World) (b r n : Nat) (D : DU) (left : Lit → Bool) (cnt : Nat) : Prop := w.ranges Try.prog 72 (plainElem (H := Unit) Try.prog 3) b r n D left cnt

section
variable {P0 : Program} (w : World) {ops : Array Oper} {rest : List Oper} {o : Oper} {a : Act} {Q : Exit → Act → World → Prop}
theorem wpList_next_poly (hg : o.guard = none) (it : Operand) (hop : o.op = Op.next it false) (b r n d : Nat) (D : DU) (P : Pl) (left : Lit → Bool) (cnt : Nat)
    (hit : a.eval it = .pointer (some ⟨r, 0, none⟩)) (h : RanP w b r n D left cnt) (hp : PolM d D P) (hd : d ≤ 1000000) (hleft : ∀ l, left l = true → has D l = true)
    (hDone : cnt = 0 → (∀ kl, left kl = false) → wpList Try.prog ops Q rest (a.put o.dst (.tuple #[.bool false])) w)
    (hMore : ∀ (a0 a1 a2 a3 a4 a5 a6 c : Int) (w' : World) (cnt' : Nat), K7 d [a0, a1, a2, a3, a4, a5, a6] → left (kl [a0, a1, a2, a3, a4, a5, a6]) = true → (Lit.int .i64 c).wf = true →
      D.atKey (kl [a0, a1, a2, a3, a4, a5, a6]) (.lit (.int .i64 0)) = .lit (.int .i64 c) → RanP w' b r n D (fun z => left z && !z.sameKey (kl [a0, a1, a2, a3, a4, a5, a6])) cnt' → cnt' < cnt →
      w.grownBy w' (some r) → w'.heap.size = w.heap.size →
      (Instr.entry (.pointer (some ⟨r, 0, none⟩))).run Try.prog w' = .ok (.tuple #[.agg #[.int .i64 a0, .int .i64 a1, .int .i64 a2, .int .i64 a3, .int .i64 a4, .int .i64 a5, .int .i64 a6], .int .i64 c]) w' →
      wpList Try.prog ops Q rest (a.put o.dst (.tuple #[.bool true, .agg #[.int .i64 a0, .int .i64 a1, .int .i64 a2, .int .i64 a3, .int .i64 a4, .int .i64 a5, .int .i64 a6], .int .i64 c])) w') :
    wpList Try.prog ops Q (o :: rest) a w :=
  wpList_next_ranges w hg it hop 72 klaw (plainElem Try.prog 3) (fun x : Value => x) (Value.int .i64) (fun key _ _ => ⟨key, rfl⟩) (fun v y hv => by obtain ⟨c, rfl, _⟩ := plainElem_int_inv undI hv; exact ⟨c, rfl⟩)
    b r n D left cnt hit h hDone (fun x c l y w' cnt' hkey hlk hv hat hrg hlt hgr hsz hen => by
      obtain ⟨e, rfl, he⟩ := hp.keys l (hleft l hlk)
      obtain rfl := klaw.inj hkey (keyOf_kv he hd)
      obtain ⟨c', ec, rfl, hwc⟩ := plainElem_int_inv undI hv
      cases ec
      obtain ⟨hl, hr⟩ := he
      match e, hl with
      | [a0, a1, a2, a3, a4, a5, a6], hl => exact hMore a0 a1 a2 a3 a4 a5 a6 c w' cnt' ⟨hl, hr⟩ hlk hwc (hat _) hrg hlt hgr hsz hen)
end

/-- what is gathered and what is left add up -/
def Gath (D : DU) (P : Pl) (T : (List Int → Int) → List Int → Int) (left : Lit → Bool) (A : Pl) : Prop :=
  ∀ g : List Int → Int, Cg (Ev A g + SmK D left fun l => T g (unkl l)) (Ev P (T g))
theorem hm_of {w : World} {b n : Nat} {D : DU} (h : OwnMp w b n D) : ∀ es, D = .map es → ∀ p ∈ es, WideAt.IsKeyLit p.1 := fun es he p hp => by
  obtain ⟨es', h1, _, h3⟩ := h.entries klaw
  rw [he] at h1
  injection h1 with h1
  subst h1
  exact h3 p hp
theorem Gath.start {w : World} {b n d : Nat} {D : DU} {P : Pl} {T : (List Int → Int) → List Int → Int} (h : OwnMp w b n D) (hp : PolM d D P) : Gath D P T (has D) [] := fun g => by
  have e := SmK_all hp.tidy (fun l hl => by obtain ⟨e, rfl, _⟩ := hp.keys l hl; exact kl_lit e) (hm_of h) (fun l => T g (unkl l))
  rw [e]
  simpa [Ev] using hp.sum (T g)
theorem Gath.step {d : Nat} {D : DU} {P : Pl} {T : (List Int → Int) → List Int → Int} {left : Lit → Bool} {A : Pl} (h : Gath D P T left A) (ht : Tidy D) {e : List Int} (he : K7 d e) (hd : d ≤ 1000000) (hl : left (kl e) = true) {c : Int}
    (hat : D.atKey (kl e) (.lit (.int .i64 0)) = .lit (.int .i64 c)) {A' : Pl} (hA : ∀ g, Cg (Ev A' g) (Ev A g + c * T g e)) : Gath D P T (fun z => left z && !z.sameKey (kl e)) A' := fun g => by
  have h0 := h g
  rw [SmK_step ht (kl_lit e) hl, hat] at h0
  simp only [coef, unkl_kl he hd] at h0
  refine ((hA g).add (Cg.refl _)).trans ?_
  rw [Int.add_assoc]
  exact h0
theorem Gath.end {D : DU} {P : Pl} {T : (List Int → Int) → List Int → Int} {left : Lit → Bool} {A : Pl} (h : Gath D P T left A) (hl : ∀ l, left l = false) : ∀ g, Cg (Ev A g) (Ev P (T g)) := fun g => by
  have := h g
  rw [SmK_none hl] at this
  simpa using this

/-- a polynomial as a value -/
def PolV (w : World) (v : Value) (d n : Nat) (P : Pl) : Prop := ∃ b D, v = .map (some b) ∧ OwnMp w b n D ∧ PolM d D P
theorem PolV.below {w w' : World} {v : Value} {d n : Nat} {P : Pl} (h : PolV w v d n P) (hb : Below w.heap.size w w') : PolV w' v d n P := by
  obtain ⟨b, D, rfl, h1, h2⟩ := h
  have hlt := h1.lt
  obtain ⟨es, clock, hb', F, hs, hD⟩ := h1
  exact ⟨b, D, rfl, ⟨es, clock, (hb.block b hlt).trans hb', F, hs, hD⟩, h2⟩
theorem PolV.alt {w : World} {v : Value} {d n : Nat} {P Q : Pl} (h : PolV w v d n P) (hq : ∀ g, Cg (Ev P g) (Ev Q g)) : PolV w v d n Q := by
  obtain ⟨b, D, rfl, h1, h2⟩ := h
  exact ⟨b, D, rfl, h1, h2.alt hq⟩
theorem PolV.mono {w : World} {v : Value} {d n d' n' : Nat} {P : Pl} (h : PolV w v d n P) (hd : d ≤ d') (hn : n ≤ n') : PolV w v d' n' P := by
  obtain ⟨b, D, rfl, h1, h2⟩ := h
  exact ⟨b, D, rfl, h1.mono hn, h2.mono hd⟩

end Go.Proofs.Ytllmhicmikpfeaa

namespace Go.Proofs.Ytllmhicmikpfeaa
set_option linter.all false
open Go.RowKit

abbrev Cls := List Int × Int
def clD : Cls := ([], 0)
/-- the fields of classes, the permutations' slices being f -/
def clF (cs : List Cls) (f : Nat → Value) (i j : Nat) : Value :=
  match j with
  | 0 => f i
  | _ => .int .i64 (cs.getD i clD).2
/-- classes that can be read, at the head of a block -/
def RdCl (w : World) (v : Value) (cs : List Cls) : Prop := ∃ f, RdS w 2 v cs.length (clF cs f) ∧ ∀ i, i < cs.length → Ints w (f i) (cs.getD i clD).1
theorem RdCl.below {w w' : World} {v : Value} {cs : List Cls} (h : RdCl w v cs) (hb : Below w.heap.size w w') : RdCl w' v cs := by
  obtain ⟨f, h1, h2⟩ := h
  exact ⟨f, h1.below hb, fun i hi => (h2 i hi).below hb⟩
theorem RdS.two {w : World} {v : Value} {cs : List Cls} {f : Nat → Value} (h : RdS w 2 v cs.length (clF cs f)) : ∃ p cap, v = .slice p cs.length cap ∧ (cs.length ≤ cap ∧ cap ≤ maxLen) ∧
    (0 < cs.length → ∃ b, p = some ⟨b, 0, none⟩ ∧ ∀ i, i < cs.length → w.cell? ⟨b, i * 2, none⟩ = some (f i) ∧ w.cell? ⟨b, i * 2 + 1, none⟩ = some (.int .i64 (cs.getD i clD).2)) := by
  obtain ⟨p, cap, rfl, hm, h⟩ := h
  refine ⟨p, cap, rfl, hm, fun h0 => ?_⟩
  obtain ⟨b, hp, hx⟩ := h h0
  exact ⟨b, hp, fun i hi => ⟨hx i hi 0 (by omega), hx i hi 1 (by omega)⟩⟩
/-- classes that came in, wherever they lie -/
def RdClA (w : World) (v : Value) (cs : List Cls) : Prop :=
  ∃ (p : Option Addr) (cap : Nat) (f : Nat → Value), v = .slice p cs.length cap ∧ (cs.length ≤ cap ∧ cap ≤ maxLen) ∧
    (0 < cs.length → ∃ b off, p = some ⟨b, off, none⟩ ∧ ∀ i, i < cs.length → w.cell? ⟨b, off + i * 2, none⟩ = some (f i) ∧ w.cell? ⟨b, off + i * 2 + 1, none⟩ = some (.int .i64 (cs.getD i clD).2)) ∧
    ∀ i, i < cs.length → Ints w (f i) (cs.getD i clD).1
theorem RdClA.below {w w' : World} {v : Value} {cs : List Cls} (h : RdClA w v cs) (hb : Below w.heap.size w w') : RdClA w' v cs := by
  obtain ⟨p, cap, f, e, h1, h2, h3⟩ := h
  refine ⟨p, cap, f, e, h1, fun h0 => ?_, fun i hi => (h3 i hi).below hb⟩
  obtain ⟨b, off, hp, hx⟩ := h2 h0
  exact ⟨b, off, hp, fun i hi => ⟨cell_below hb (hx i hi).1, cell_below hb (hx i hi).2⟩⟩

/-- none of the lists is too long -/
def ClsFit (cs : List Cls) : Prop := cs.length ≤ 1048576 ∧ ∀ i, i < cs.length → (cs.getD i clD).1.length ≤ 1048576

theorem szI_cases (left : Int) (n : Nat) (h0 : 0 ≤ left) : szI left n = -1 ∨ (0 ≤ szI left n ∧ szI left n ≤ left ∧ (n : Int) ≤ left) := by
  unfold szI; split <;> omega

theorem blk2 {w : World} {b : Nat} {x0 x1 : Value} {T : TypeId} (h : w.heap[b]? = some (.cells #[x0, x1] T (0, 0))) :
    w.cell? ⟨b, 0, none⟩ = some x0 ∧ w.cell? ⟨b, 1, none⟩ = some x1 ∧ (∀ j, w.frozen? ⟨b, j, none⟩ = false) ∧ b < w.heap.size :=
  ⟨cell_of_blk h rfl, cell_of_blk h rfl, free_of_blk h, blk_lt h⟩
theorem set2_all {w : World} {b : Nat} {x0 x1 : Value} {T : TypeId} (h : w.heap[b]? = some (.cells #[x0, x1] T (0, 0))) (y0 y1 : Value) :
    ((w.setCell ⟨b, 0, none⟩ y0).setCell ⟨b, 1, none⟩ y1).heap[b]? = some (.cells #[y0, y1] T (0, 0)) := by
  have e := heap_setCell_at (heap_setCell_at h 0 y0) 1 y1
  simpa using e

/-- make of structs -/
theorem run_make_S {P : Program} (t e : TypeId) (z : Value) (size bytes : Nat) (ht : P.underlying t = some (.slice e)) (hinfo : (P.info? e).map (fun i => (i.zero, i.size, i.bytes)) = some (some z, size, bytes)) (n : Nat) (hn : n ≤ 1048576) (hb : bytes ≤ 1000) (w : World) :
    (Instr.makeSlice t (.int .i64 (n : Int)) (.int .i64 (n : Int))).run P w = .ok (.slice (some ⟨w.heap.size, 0, none⟩) n n) (w.alloc (.cells (madeCells z.cells (n * size)) e)) := by
  obtain ⟨i, hi, hz, hsz, hby⟩ := info_partsS hinfo
  have hm : (i.bytes : Int) * (n : Int) ≤ 1000 * 1048576 := by
    have := Nat.mul_le_mul (show i.bytes ≤ 1000 by omega) hn
    have h2 : ((i.bytes * n : Nat) : Int) ≤ 1000 * 1048576 := by omega
    rwa [Int.natCast_mul] at h2
  have := run_make (P := P) w t e i z ht hi hz .i64 .i64 (n : Int) (n : Int) (by omega) (Int.le_refl _) (by omega) (by omega)
  rw [hsz] at this
  simpa using this
theorem made_S (w : World) (T : TypeId) (z0 z1 : Value) (n : Nat) (hn : n ≤ 1048576) : OwnS (w.alloc (.cells (madeCells #[z0, z1] (n * 2)) T)) w.heap.size (w.heap.size + 1) T 2 (.slice (some ⟨w.heap.size, 0, none⟩) n n) n (fun _ j => if j = 0 then z0 else z1) := by
  refine ⟨(madeCells #[z0, z1] (n * 2)).toList, ⟨⟨by simp [madeCells], .inr ⟨w.heap.size, n, _, rfl, Nat.le_refl _, heap_alloc_top _ _, Nat.le_refl _, by unfold maxLen; omega, by simp [madeCells], ?_⟩⟩, fun k hk => by simp [Value.ownBlock] at hk; omega⟩, fun i hi j hj => ?_⟩
  · rw [List.take_of_length_le (by simp [madeCells])]
  · have hlt : i * 2 + j < n * 2 := by omega
    have hm : (i * 2 + j) % 2 = j := by omega
    have hg : ∀ t, t < n * 2 → (madeCells #[z0, z1] (n * 2)).toList[t]? = some ((#[z0, z1] : Array Value)[t % 2]!) := fun t h => by simp [madeCells, h]
    rw [hg _ hlt, hm]
    have : j = 0 ∨ j = 1 := by omega
    rcases this with rfl | rfl <;> rfl

theorem keep4w {wr W W' : World} {a0 a1 a2 a3 : Addr} {v0 v1 v2 v3 : Value} (hb : Below W.heap.size W W') (h : (W.cell? a0 = some v0 ∧ W.cell? a1 = some v1 ∧ W.cell? a2 = some v2 ∧ W.cell? a3 = some v3) ∧ Below wr.heap.size wr W) :
    (W'.cell? a0 = some v0 ∧ W'.cell? a1 = some v1 ∧ W'.cell? a2 = some v2 ∧ W'.cell? a3 = some v3) ∧ Below wr.heap.size wr W' :=
  ⟨⟨cell_below hb h.1.1, cell_below hb h.1.2.1, cell_below hb h.1.2.2.1, cell_below hb h.1.2.2.2⟩, below_trans h.2 hb⟩

end Go.Proofs.Ytllmhicmikpfeaa

namespace Go.Proofs.Ytllmhicmikpfeaa
set_option linter.all false
open Go.RowKit

/-- at the first difference, or a proper beginning first -/
def ltB : List Int → List Int → Bool
  | [], [] => false
  | [], _ :: _ => true
  | _ :: _, [] => false
  | x :: xs, y :: ys => if x < y then true else if y < x then false else ltB xs ys
def cmpB : List Int → List Int → Int
  | [], [] => 0
  | [], _ :: _ => -1
  | _ :: _, [] => 1
  | x :: xs, y :: ys => if x < y then -1 else if y < x then 1 else cmpB xs ys
theorem cmpB_lt : ∀ xs ys, decide (0 ≤ cmpB xs ys) = !ltB xs ys
  | [], [] => rfl
  | [], _ :: _ => rfl
  | _ :: _, [] => rfl
  | x :: xs, y :: ys => by
    unfold cmpB ltB
    by_cases h1 : x < y
    · simp [h1]
    · by_cases h2 : y < x
      · simp [h1, h2]
      · simp only [h1, h2, if_false]; exact cmpB_lt xs ys
theorem cmpB_cases : ∀ xs ys, cmpB xs ys = -1 ∨ cmpB xs ys = 0 ∨ cmpB xs ys = 1
  | [], [] => by simp [cmpB]
  | [], _ :: _ => by simp [cmpB]
  | _ :: _, [] => by simp [cmpB]
  | x :: xs, y :: ys => by
    unfold cmpB
    by_cases h1 : x < y
    · simp [h1]
    · by_cases h2 : y < x
      · simp [h1, h2]
      · simp only [h1, h2, if_false]; exact cmpB_cases xs ys
theorem drop_at {xs : List Int} {k : Nat} (h : k < xs.length) : xs.drop k = xs.getD k 0 :: xs.drop (k + 1) := by
  rw [List.drop_eq_getElem_cons h, List.getD_eq_getElem?_getD, List.getElem?_eq_getElem h]; rfl
theorem drop_end {xs : List Int} {k : Nat} (h : xs.length ≤ k) : xs.drop k = [] := List.drop_eq_nil_iff.2 h

/-- how many places are left when those at the end are struck that are not moved -/
def trimN (xs : List Int) : Nat → Nat
  | 0 => 0
  | n + 1 => if 1 ≤ n ∧ xs.getD n 0 = (n : Int) then trimN xs n else n + 1
theorem trimN_le (xs : List Int) : ∀ n, trimN xs n ≤ n
  | 0 => Nat.le_refl _
  | n + 1 => by
    unfold trimN
    split
    · exact Nat.le_trans (trimN_le xs n) (Nat.le_succ _)
    · exact Nat.le_refl _
def trimL (xs : List Int) : List Int := xs.take (trimN xs xs.length)
theorem trimL_length (xs : List Int) : (trimL xs).length = trimN xs xs.length := by
  unfold trimL; rw [List.length_take]; have := trimN_le xs xs.length; omega

/-- the first numbers of a list, as a slice -/
theorem ints_take2 {w : World} {p : Option Addr} {cap : Nat} {xs : List Int} (h : Ints w (.slice p xs.length cap) xs) {i : Nat} (hi : i ≤ xs.length) : Ints w (.slice p i cap) (xs.take i) := by
  obtain ⟨q, c, e, ⟨h1, h2⟩, h3⟩ := h
  injection e with e1 e2 e3
  subst e1 e3
  have hl : (xs.take i).length = i := by rw [List.length_take]; omega
  refine ⟨p, cap, by rw [hl], ⟨by omega, h2⟩, fun h0 => ?_⟩
  obtain ⟨b, off, hp, hx⟩ := h3 (by omega)
  refine ⟨b, off, hp, fun j hj => ?_⟩
  rw [hx j (by omega)]
  unfold iv
  rw [List.getD_eq_getElem?_getD, List.getD_eq_getElem?_getD, List.getElem?_take_of_lt (by omega)]

set_option maxRecDepth 100000 in
set_option maxHeartbeats 1000000 in
theorem implTrim_yes (v : Value) (xs : List Int) (w : World) (h : Ints w v xs) (hp : permOk xs = true) :
    Calls Try.prog 83 #[v] w (RetI w (trimL xs)) := by
  have hl : xs.length ≤ 7 := (of_decide_eq_true hp).2.1
  have Hp := Lib.hid hp
  clear hp
  have Hh := Lib.hid h
  obtain ⟨p, cap, rfl, ⟨hx1, hx⟩, hxc⟩ := h
  unfold maxLen at hx
  clear hxc
  go_enter Try.func83, Try.ntmps83
  go_wp2_with fail
  refine (implIsPerm_b _ xs _ Hp.out _ Hh.out).mono ?_
  rintro e w1 ⟨rfl, hb⟩
  have Hb := Lib.hid hb
  have Hh1 := Lib.hid (Hh.out.below hb)
  clear hb
  go_wp2_with fail
  go_loop [3] (fun s => ∃ n : Nat, n ≤ xs.length ∧ s = .int .i64 n ∧ Hid (trimN xs xs.length = trimN xs n)) (fun s => (intOf s).toNat)
  case atStart => exact ⟨xs.length, Nat.le_refl _, rfl, rfl⟩
  case round =>
    obtain ⟨n, hn, rfl, ht⟩ := hrel
    have fin : trimN xs n = n → Hid (trimN xs xs.length = n) := fun h => by rw [Hid, ht.out, h]
    by_cases h1 : 1 < n
    · have h2 : (1 : Int) < (n : Int) := by omega
      have i1 : (0 : Int) ≤ (n : Int) - 1 := by omega
      have i2 : (n : Int) - 1 < (xs.length : Int) := by omega
      have i3 : ((n : Int) - 1).toNat = n - 1 := by omega
      obtain ⟨_, _, e, _, hxc⟩ := Hh1.out
      injection e with e1 e2 e3
      subst e1 e3
      obtain ⟨b, off, rfl, hc⟩ := hxc (by omega)
      have c1 := hc (n - 1) (by omega)
      unfold iv at c1
      obtain ⟨x, hx'⟩ : ∃ x, x = xs.getD (n - 1) 0 := ⟨_, rfl⟩
      rw [← hx'] at c1
      have Ht := Lib.hid (show trimN xs n = if 1 ≤ n - 1 ∧ x = ((n - 1 : Nat) : Int) then trimN xs (n - 1) else n by
        obtain ⟨m, rfl⟩ : ∃ m, n = m + 1 := ⟨n - 1, by omega⟩
        rw [hx']; rfl)
      clear hx' hxc hc
      by_cases he : x = (n : Int) - 1
      · subst he
        have Hf := Lib.hid (show trimN xs xs.length = trimN xs (n - 1) by rw [ht.out, Ht.out, if_pos ⟨by omega, by omega⟩])
        clear Ht ht fin
        go_wp2_with fail
        go_round
        case rel => exact ⟨n - 1, by omega, by congr 1; omega, Hf.out⟩
        case measure => simp [intOf]; omega
      · have hz : (x == (n : Int) - 1) = false := by simp [he]
        have Hn := fin (by rw [Ht.out, if_neg (by rintro ⟨_, h⟩; omega)])
        have j1 : (0 : Int) ≤ (n : Int) := by omega
        have j2 : (n : Int) ≤ (cap : Int) := by omega
        clear Ht ht fin
        go_wp2_with fail
        refine (clone_any _ (xs.take n) _ (ints_take2 Hh1.out hn) (by rw [List.length_take]; omega)).mono ?_
        rintro e w2 ⟨u, rfl, ho, hb2⟩
        obtain ⟨pv, kv, rfl, _, _⟩ := ho.shape
        rw [show (xs.take n).length = n by rw [List.length_take]; omega] at ho ⊢
        have Ho := Lib.hid ho
        clear ho
        go_wp2_with fail
        go_ret
        refine ⟨_, rfl, ?_, ?_⟩
        · show OwnI _ _ _ _ _ (xs.take (trimN xs xs.length))
          rw [Hn.out]
          exact Ho.out.mono Hb.out.size (Nat.le_refl _)
        · exact Hb.out.trans (hb2.mono Hb.out.size)
    · have h2 : ¬ (1 : Int) < (n : Int) := by omega
      have Hn := fin (by
        match n, h1 with
        | 0, _ => rfl
        | 1, _ => rfl
        | n + 2, h => omega)
      have j1 : (0 : Int) ≤ (n : Int) := by omega
      have j2 : (n : Int) ≤ (cap : Int) := by omega
      clear ht fin
      go_wp2_with fail
      refine (clone_any _ (xs.take n) _ (ints_take2 Hh1.out hn) (by rw [List.length_take]; omega)).mono ?_
      rintro e w2 ⟨u, rfl, ho, hb2⟩
      obtain ⟨pv, kv, rfl, _, _⟩ := ho.shape
      rw [show (xs.take n).length = n by rw [List.length_take]; omega] at ho ⊢
      have Ho := Lib.hid ho
      clear ho
      go_wp2_with fail
      go_ret
      refine ⟨_, rfl, ?_, ?_⟩
      · show OwnI _ _ _ _ _ (xs.take (trimN xs xs.length))
        rw [Hn.out]
        exact Ho.out.mono Hb.out.size (Nat.le_refl _)
      · exact Hb.out.trans (hb2.mono Hb.out.size)

end Go.Proofs.Ytllmhicmikpfeaa

namespace Go.Proofs.Ytllmhicmikpfeaa
set_option linter.all false
open Go.RowKit

theorem ltB_irrefl : ∀ xs, ltB xs xs = false
  | [] => rfl
  | x :: xs => by unfold ltB; rw [if_neg (by omega), if_neg (by omega)]; exact ltB_irrefl xs
theorem ltB_total : ∀ xs ys, ltB xs ys = false → ltB ys xs = false → xs = ys
  | [], [], _, _ => rfl
  | [], _ :: _, h, _ => by simp [ltB] at h
  | _ :: _, [], _, h => by simp [ltB] at h
  | x :: xs, y :: ys, h1, h2 => by
    unfold ltB at h1 h2
    by_cases a : x < y
    · rw [if_pos a] at h1; cases h1
    · by_cases b : y < x
      · rw [if_pos b] at h2; cases h2
      · rw [if_neg a, if_neg b] at h1
        rw [if_neg b, if_neg a] at h2
        rw [ltB_total xs ys h1 h2, show x = y by omega]
theorem ltB_trans : ∀ xs ys zs, ltB xs ys = true → ltB ys zs = true → ltB xs zs = true
  | [], _, [], h1, h2 => by
    rename_i ys
    cases ys with
    | nil => simp [ltB] at h1
    | cons y ys => simp [ltB] at h2
  | [], _, _ :: _, _, _ => rfl
  | x :: xs, [], _, h1, _ => by simp [ltB] at h1
  | x :: xs, y :: ys, [], _, h2 => by simp [ltB] at h2
  | x :: xs, y :: ys, z :: zs, h1, h2 => by
    unfold ltB at h1 h2 ⊢
    by_cases a : x < y
    · by_cases b : y < z
      · rw [if_pos (by omega)]
      · rw [if_neg b] at h2
        by_cases c : z < y
        · rw [if_pos c] at h2; cases h2
        · rw [if_pos (by omega)]
    · rw [if_neg a] at h1
      by_cases a2 : y < x
      · rw [if_pos a2] at h1; cases h1
      · rw [if_neg a2] at h1
        by_cases b : y < z
        · rw [if_pos (by omega)]
        · rw [if_neg b] at h2
          by_cases c : z < y
          · rw [if_pos c] at h2; cases h2
          · rw [if_neg c] at h2
            rw [if_neg (by omega), if_neg (by omega)]
            exact ltB_trans xs ys zs h1 h2
theorem ltB_ntrans (xs ys zs : List Int) (h1 : ltB xs ys = false) (h2 : ltB ys zs = false) : ltB xs zs = false := by
  cases h : ltB xs zs with
  | false => rfl
  | true =>
    exfalso
    cases a : ltB ys xs with
    | true => rw [ltB_trans _ _ _ a h] at h2; cases h2
    | false =>
      rw [ltB_total _ _ h1 a] at h
      rw [h] at h2; cases h2
theorem ltB_asym {xs ys : List Int} (h : ltB xs ys = true) : ltB ys xs = false := by
  cases a : ltB ys xs with
  | false => rfl
  | true => have := ltB_trans _ _ _ h a; rw [ltB_irrefl] at this; cases this
theorem cmpB_neg (xs ys : List Int) : decide (cmpB xs ys < 0) = ltB xs ys := by
  have := cmpB_lt xs ys
  by_cases h : 0 ≤ cmpB xs ys
  · rw [decide_eq_true h] at this
    rw [decide_eq_false (by omega)]
    cases hl : ltB xs ys with
    | false => rfl
    | true => rw [hl] at this; cases this
  · rw [decide_eq_false h] at this
    rw [decide_eq_true (by omega)]
    cases hl : ltB xs ys with
    | false => rw [hl] at this; cases this
    | true => rfl

/-- put in where it belongs -/
def insC (c : Cls) : List Cls → List Cls
  | [] => [c]
  | x :: l => if ltB x.1 c.1 then x :: insC c l else c :: x :: l
def srtC (cs : List Cls) : List Cls := cs.foldl (fun l c => insC c l) []
theorem insC_perm (c : Cls) : ∀ l, (insC c l).Perm (c :: l)
  | [] => List.Perm.refl _
  | x :: l => by
    rw [insC]
    split
    · exact ((insC_perm c l).cons x).trans (List.Perm.swap c x l)
    · exact List.Perm.refl _
theorem insC_fold_perm : ∀ (cs acc : List Cls), (cs.foldl (fun l c => insC c l) acc).Perm (cs ++ acc)
  | [], acc => List.Perm.refl _
  | c :: cs, acc => by
    rw [List.foldl_cons]
    exact (insC_fold_perm cs _).trans (((insC_perm c acc).append_left cs).trans (List.perm_middle))
theorem srtC_perm (cs : List Cls) : (srtC cs).Perm cs := by
  have := insC_fold_perm cs []
  rw [List.append_nil] at this
  exact this
def AscC (cs : List Cls) : Prop := cs.Pairwise fun a b => ltB a.1 b.1 = true
theorem insC_asc {c : Cls} : ∀ {l : List Cls}, AscC l → (∀ x ∈ l, x.1 ≠ c.1) → AscC (insC c l)
  | [], _, _ => List.pairwise_singleton _ _
  | x :: l, h, hn => by
    obtain ⟨h1, h2⟩ := List.pairwise_cons.1 h
    rw [insC]
    by_cases e : ltB x.1 c.1 = true
    · rw [if_pos e]
      refine List.pairwise_cons.2 ⟨fun y hy => ?_, insC_asc h2 fun y hy => hn y (List.mem_cons_of_mem _ hy)⟩
      rcases List.mem_cons.1 ((insC_perm c l).mem_iff.1 hy) with rfl | hy
      · exact e
      · exact h1 y hy
    · rw [if_neg e]
      have e2 : ltB c.1 x.1 = true := by
        cases a : ltB c.1 x.1 with
        | true => rfl
        | false => exact absurd (ltB_total _ _ (by simpa using e) a) (hn x List.mem_cons_self)
      refine List.pairwise_cons.2 ⟨fun y hy => ?_, h⟩
      rcases List.mem_cons.1 hy with rfl | hy
      · exact e2
      · exact ltB_trans _ _ _ e2 (h1 y hy)
theorem fold_asc : ∀ (cs acc : List Cls), AscC acc → ((cs ++ acc).map (·.1)).Nodup → AscC (cs.foldl (fun l c => insC c l) acc)
  | [], acc, h, _ => h
  | c :: cs, acc, h, hn => by
    rw [List.foldl_cons]
    have hn' := hn
    rw [List.cons_append, List.map_cons, List.nodup_cons] at hn'
    refine fold_asc cs _ (insC_asc h fun x hx e => hn'.1 ?_) ?_
    · rw [← e]
      exact List.mem_map.2 ⟨x, List.mem_append_right _ hx, rfl⟩
    · refine (List.Perm.nodup_iff ?_).2 hn
      exact (((insC_perm c acc).append_left cs).trans List.perm_middle).map _
theorem srtC_asc {cs : List Cls} (h : (cs.map (·.1)).Nodup) : AscC (srtC cs) := fold_asc cs [] List.Pairwise.nil (by rw [List.append_nil]; exact h)
theorem asc_one : ∀ {a b : List Cls}, AscC a → AscC b → a.Perm b → a = b
  | [], b, _, _, h => (List.nil_perm.1 h).symm
  | x :: a, [], _, _, h => absurd h.length_eq (by simp)
  | x :: a, y :: b, ha, hb, h => by
    obtain ⟨a1, a2⟩ := List.pairwise_cons.1 ha
    obtain ⟨b1, b2⟩ := List.pairwise_cons.1 hb
    have hx : x ∈ y :: b := h.mem_iff.1 List.mem_cons_self
    have hy : y ∈ x :: a := h.mem_iff.2 List.mem_cons_self
    have e : x = y := by
      rcases List.mem_cons.1 hx with e | hx
      · exact e
      · rcases List.mem_cons.1 hy with e | hy
        · exact e.symm
        · have c1 := b1 x hx
          have c2 := a1 y hy
          rw [ltB_asym c1] at c2; cases c2
    subst e
    rw [asc_one a2 b2 (List.Perm.cons_inv h)]
/-- what is sorted is what insertion makes -/
theorem srtC_eq {cs cs' : List Cls} (hn : (cs.map (·.1)).Nodup) (hp : cs'.Perm cs) (hs : cs'.Pairwise fun a b => ltB b.1 a.1 = false) : cs' = srtC cs := by
  refine asc_one ?_ (srtC_asc hn) (hp.trans (srtC_perm cs).symm)
  have hn' : (cs'.map (·.1)).Nodup := (List.Perm.nodup_iff (hp.map _)).2 hn
  have key : ∀ l : List Cls, (l.map (·.1)).Nodup → (l.Pairwise fun a b => ltB b.1 a.1 = false) → AscC l := fun l => by
    induction l with
    | nil => exact fun _ _ => List.Pairwise.nil
    | cons x l ih =>
      intro h1 h2
      rw [List.map_cons, List.nodup_cons] at h1
      obtain ⟨p1, p2⟩ := List.pairwise_cons.1 h2
      refine List.pairwise_cons.2 ⟨fun y hy => ?_, ih h1.2 p2⟩
      cases a : ltB x.1 y.1 with
      | true => rfl
      | false => exact absurd (List.mem_map.2 ⟨y, hy, ltB_total _ _ (p1 y hy) a⟩) h1.1
  exact key cs' hn' hs

end Go.Proofs.Ytllmhicmikpfeaa

namespace Go.Proofs.Ytllmhicmikpfeaa
set_option linter.all false
set_option maxRecDepth 100000
open Go.RowKit

/-- the comparison of the first k exponents, from the last on -/
def cmpK (xs ys : List Int) : Nat → Int
  | 0 => 0
  | k + 1 => if xs.getD k 0 = ys.getD k 0 then cmpK xs ys k else ys.getD k 0 - xs.getD k 0
def cmpT (xs ys : List Int) : Int := cmpK xs ys 7
def rvK (xs : List Int) : Nat → List Int
  | 0 => []
  | k + 1 => -(xs.getD k 0) :: rvK xs k
def rvT (xs : List Int) : List Int := (xs.map fun x => -x).reverse
theorem rvK_eq (xs : List Int) : ∀ k, k ≤ xs.length → rvK xs k = ((xs.take k).map fun x => -x).reverse
  | 0, _ => by simp [rvK]
  | k + 1, h => by
    rw [rvK, rvK_eq xs k (by omega), List.take_succ_eq_append_getElem (by omega), List.map_append, List.reverse_append, List.getD_eq_getElem?_getD, List.getElem?_eq_getElem (show k < xs.length by omega)]
    rfl
theorem rvK_all {xs : List Int} (h : xs.length = 7) : rvK xs 7 = rvT xs := by
  rw [rvK_eq xs 7 (by omega), ← h, List.take_length]; rfl
theorem cmpK_lt (xs ys : List Int) : ∀ k, decide (cmpK xs ys k < 0) = ltB (rvK xs k) (rvK ys k)
  | 0 => rfl
  | k + 1 => by
    rw [rvK, rvK, ltB, cmpK]
    by_cases e : xs.getD k 0 = ys.getD k 0
    · rw [if_pos e, if_neg (by omega), if_neg (by omega)]
      exact cmpK_lt xs ys k
    · rw [if_neg e]
      by_cases h : -(xs.getD k 0) < -(ys.getD k 0)
      · rw [if_pos h]; exact decide_eq_true (by omega)
      · rw [if_neg h, if_pos (by omega)]; exact decide_eq_false (by omega)
def ltT (xs ys : List Int) : Bool := ltB (rvT xs) (rvT ys)
theorem cmpT_neg {xs ys : List Int} (hx : xs.length = 7) (hy : ys.length = 7) : decide (cmpT xs ys < 0) = ltT xs ys := by
  unfold cmpT ltT
  rw [cmpK_lt, rvK_all hx, rvK_all hy]
theorem cmpK_anti (xs ys : List Int) : ∀ k, cmpK ys xs k = -(cmpK xs ys k)
  | 0 => rfl
  | k + 1 => by
    rw [cmpK, cmpK, cmpK_anti xs ys k]
    split
    · rename_i h; rw [if_pos h.symm]
    · rename_i h; rw [if_neg (fun e => h e.symm)]; omega
theorem rvT_inj {xs ys : List Int} (h : rvT xs = rvT ys) : xs = ys := by
  have h1 := List.reverse_inj.1 h
  exact (List.map_inj_right fun a b e => by omega).1 h1
theorem ltT_irrefl (xs : List Int) : ltT xs xs = false := ltB_irrefl _
theorem ltT_total (xs ys : List Int) (h1 : ltT xs ys = false) (h2 : ltT ys xs = false) : xs = ys := rvT_inj (ltB_total _ _ h1 h2)
theorem ltT_trans (xs ys zs : List Int) (h1 : ltT xs ys = true) (h2 : ltT ys zs = true) : ltT xs zs = true := ltB_trans _ _ _ h1 h2
theorem ltT_ntrans (xs ys zs : List Int) (h1 : ltT xs ys = false) (h2 : ltT ys zs = false) : ltT xs zs = false := ltB_ntrans _ _ _ h1 h2
theorem ltT_asym {xs ys : List Int} (h : ltT xs ys = true) : ltT ys xs = false := ltB_asym h
theorem cmpT_rng {xs ys : List Int} {d : Int} (hx : ∀ j, 0 ≤ xs.getD j 0 ∧ xs.getD j 0 ≤ d) (hy : ∀ j, 0 ≤ ys.getD j 0 ∧ ys.getD j 0 ≤ d) (h0 : 0 ≤ d) : ∀ k, -d ≤ cmpK xs ys k ∧ cmpK xs ys k ≤ d
  | 0 => by unfold cmpK; omega
  | k + 1 => by
    have := cmpT_rng hx hy h0 k
    unfold cmpK
    have a := hx k
    have b := hy k
    split <;> omega

/-- put in where it belongs -/
def insT (c : Cls) : List Cls → List Cls
  | [] => [c]
  | x :: l => if ltT x.1 c.1 then x :: insT c l else c :: x :: l
def srtT (cs : List Cls) : List Cls := cs.foldl (fun l c => insT c l) []
theorem insT_perm (c : Cls) : ∀ l, (insT c l).Perm (c :: l)
  | [] => List.Perm.refl _
  | x :: l => by
    rw [insT]
    split
    · exact ((insT_perm c l).cons x).trans (List.Perm.swap c x l)
    · exact List.Perm.refl _
theorem insT_fold_perm : ∀ (cs acc : List Cls), (cs.foldl (fun l c => insT c l) acc).Perm (cs ++ acc)
  | [], acc => List.Perm.refl _
  | c :: cs, acc => by
    rw [List.foldl_cons]
    exact (insT_fold_perm cs _).trans (((insT_perm c acc).append_left cs).trans (List.perm_middle))
theorem srtT_perm (cs : List Cls) : (srtT cs).Perm cs := by
  have := insT_fold_perm cs []
  rw [List.append_nil] at this
  exact this
def AscT (cs : List Cls) : Prop := cs.Pairwise fun a b => ltT a.1 b.1 = true
theorem insT_asc {c : Cls} : ∀ {l : List Cls}, AscT l → (∀ x ∈ l, x.1 ≠ c.1) → AscT (insT c l)
  | [], _, _ => List.pairwise_singleton _ _
  | x :: l, h, hn => by
    obtain ⟨h1, h2⟩ := List.pairwise_cons.1 h
    rw [insT]
    by_cases e : ltT x.1 c.1 = true
    · rw [if_pos e]
      refine List.pairwise_cons.2 ⟨fun y hy => ?_, insT_asc h2 fun y hy => hn y (List.mem_cons_of_mem _ hy)⟩
      rcases List.mem_cons.1 ((insT_perm c l).mem_iff.1 hy) with rfl | hy
      · exact e
      · exact h1 y hy
    · rw [if_neg e]
      have e2 : ltT c.1 x.1 = true := by
        cases a : ltT c.1 x.1 with
        | true => rfl
        | false => exact absurd (ltT_total _ _ (by simpa using e) a) (hn x List.mem_cons_self)
      refine List.pairwise_cons.2 ⟨fun y hy => ?_, h⟩
      rcases List.mem_cons.1 hy with rfl | hy
      · exact e2
      · exact ltT_trans _ _ _ e2 (h1 y hy)
theorem foldT_asc : ∀ (cs acc : List Cls), AscT acc → ((cs ++ acc).map (·.1)).Nodup → AscT (cs.foldl (fun l c => insT c l) acc)
  | [], acc, h, _ => h
  | c :: cs, acc, h, hn => by
    rw [List.foldl_cons]
    have hn' := hn
    rw [List.cons_append, List.map_cons, List.nodup_cons] at hn'
    refine foldT_asc cs _ (insT_asc h fun x hx e => hn'.1 ?_) ?_
    · rw [← e]
      exact List.mem_map.2 ⟨x, List.mem_append_right _ hx, rfl⟩
    · refine (List.Perm.nodup_iff ?_).2 hn
      exact (((insT_perm c acc).append_left cs).trans List.perm_middle).map _
theorem srtT_asc {cs : List Cls} (h : (cs.map (·.1)).Nodup) : AscT (srtT cs) := foldT_asc cs [] List.Pairwise.nil (by rw [List.append_nil]; exact h)
theorem ascT_one : ∀ {a b : List Cls}, AscT a → AscT b → a.Perm b → a = b
  | [], b, _, _, h => (List.nil_perm.1 h).symm
  | x :: a, [], _, _, h => absurd h.length_eq (by simp)
  | x :: a, y :: b, ha, hb, h => by
    obtain ⟨a1, a2⟩ := List.pairwise_cons.1 ha
    obtain ⟨b1, b2⟩ := List.pairwise_cons.1 hb
    have hx : x ∈ y :: b := h.mem_iff.1 List.mem_cons_self
    have hy : y ∈ x :: a := h.mem_iff.2 List.mem_cons_self
    have e : x = y := by
      rcases List.mem_cons.1 hx with e | hx
      · exact e
      · rcases List.mem_cons.1 hy with e | hy
        · exact e.symm
        · have c1 := b1 x hx
          have c2 := a1 y hy
          rw [ltT_asym c1] at c2; cases c2
    subst e
    rw [ascT_one a2 b2 (List.Perm.cons_inv h)]
/-- what is sorted is what insertion makes -/
theorem srtT_eq {cs cs' : List Cls} (hn : (cs.map (·.1)).Nodup) (hp : cs'.Perm cs) (hs : cs'.Pairwise fun a b => ltT b.1 a.1 = false) : cs' = srtT cs := by
  refine ascT_one ?_ (srtT_asc hn) (hp.trans (srtT_perm cs).symm)
  have hn' : (cs'.map (·.1)).Nodup := (List.Perm.nodup_iff (hp.map _)).2 hn
  have key : ∀ l : List Cls, (l.map (·.1)).Nodup → (l.Pairwise fun a b => ltT b.1 a.1 = false) → AscT l := fun l => by
    induction l with
    | nil => exact fun _ _ => List.Pairwise.nil
    | cons x l ih =>
      intro h1 h2
      rw [List.map_cons, List.nodup_cons] at h1
      obtain ⟨p1, p2⟩ := List.pairwise_cons.1 h2
      refine List.pairwise_cons.2 ⟨fun y hy => ?_, ih h1.2 p2⟩
      cases a : ltT x.1 y.1 with
      | true => rfl
      | false => exact absurd (List.mem_map.2 ⟨y, hy, ltT_total _ _ (p1 y hy) a⟩) h1.1
  exact key cs' hn' hs

end Go.Proofs.Ytllmhicmikpfeaa

namespace Go.Proofs.Ytllmhicmikpfeaa
set_option linter.all false
open Go.RowKit

def fact : Nat → Nat
  | 0 => 1
  | n + 1 => (n + 1) * fact n
theorem fact_pos (n : Nat) : 1 ≤ fact n := by
  induction n with
  | zero => exact Nat.le_refl _
  | succ n ih => exact Nat.le_trans ih (Nat.le_mul_of_pos_left _ (Nat.succ_pos n))
theorem fact_le {a b : Nat} (h : a ≤ b) : fact a ≤ fact b := by
  induction h with
  | refl => exact Nat.le_refl _
  | step _ ih => exact Nat.le_trans ih (Nat.le_mul_of_pos_left _ (Nat.succ_pos _))

set_option maxRecDepth 100000 in
set_option maxHeartbeats 1000000 in
theorem specFactorial_any (n : Nat) (hn : n ≤ 12) (w : World) :
    Calls Try.prog 71 #[.int .i64 n] w fun e w' => e = .returned (.int .i64 (fact n)) ∧ Qt w w' := by
  have hfn : fact n ≤ fact 12 := fact_le hn
  have h12 : fact 12 = 479001600 := by decide
  go_enter Try.func71, Try.ntmps71
  go_wp2
  go_loopg [3, 4] n (fun g s3 i wr => ∃ k : Nat, (k = 0 ∨ k + 1 ≤ n) ∧ g = n - k ∧ i = .int .i64 (k + 2 : Nat) ∧ s3 = .int .i64 (fact (k + 1)) ∧ Qt w wr)
  case atStart => exact ⟨0, .inl rfl, rfl, rfl, rfl, Qt.refl _⟩
  case round =>
    obtain ⟨k, hk, rfl, rfl, rfl, hq⟩ := hrel
    by_cases hlt : k + 2 ≤ n
    · have hb : fact (k + 2) ≤ fact 12 := fact_le (by omega)
      have he : (fact (k + 2) : Int) = (fact (k + 1) : Int) * ((k + 2 : Nat) : Int) := by
        rw [show fact (k + 2) = (k + 2) * fact (k + 1) from rfl, Nat.mul_comm]; push_cast; rfl
      generalize hF : (fact (k + 1) : Int) = F at he
      generalize hI : ((k + 2 : Nat) : Int) = I at he
      have hm1 : 0 ≤ F * I := by omega
      have hm2 : F * I ≤ 479001600 := by omega
      have hI2 : I = (k : Int) + 2 := by omega
      have He := Lib.hid he
      have HF := Lib.hid hF
      clear hb he hF hI hfn h12
      go_wp2
      go_roundg (n - (k + 1))
      case measure => omega
      case rel => exact ⟨k + 1, .inr (by omega), rfl, by go_num, by rw [show k + 1 + 1 = k + 2 from rfl, He.out, ← hI2, w64 (by omega) (by omega)], hq⟩
    · go_wp2
      go_ret
      refine ⟨ret_int ?_, hq⟩
      rcases hk with rfl | hk
      · have : n = 0 ∨ n = 1 := by omega
        rcases this with rfl | rfl <;> rfl
      · rw [show k + 1 = n by omega]

/-- the left-th number that is not in out is put behind it -/
def decGo (out : List Int) : Nat → Nat → Nat → List Int
  | 0, _, _ => out
  | f + 1, v, left => if (v : Int) ∈ out then decGo out f (v + 1) left else if left = 0 then out ++ [(v : Int)] else decGo out f (v + 1) (left - 1)
def decL (n : Nat) (c : List Nat) : List Int := c.foldl (fun out left => decGo out n 0 left) []
theorem decL_snoc (n : Nat) (c : List Nat) (x : Nat) : decL n (c ++ [x]) = decGo (decL n c) n 0 x := by simp [decL]

theorem decGo_len (out : List Int) (f v left : Nat) : (decGo out f v left).length ≤ out.length + 1 := by
  induction f generalizing v left with
  | zero => simp [decGo]
  | succ f ih =>
    unfold decGo
    split
    · exact ih _ _
    · split
      · simp
      · exact ih _ _
theorem decL_len (n : Nat) (c : List Nat) (k : Nat) : (decL n (c.take k)).length ≤ k := by
  induction k with
  | zero => simp [decL]
  | succ k ih =>
    by_cases h : k < c.length
    · have e : c.take (k + 1) = c.take k ++ [c[k]] := by rw [List.take_add_one, List.getElem?_eq_getElem h]; rfl
      rw [e, decL_snoc]
      exact Nat.le_trans (decGo_len _ _ _ _) (by omega)
    · rw [List.take_of_length_le (by omega)]
      rw [List.take_of_length_le (by omega)] at ih
      omega

set_option maxRecDepth 100000 in
set_option maxHeartbeats 2000000 in
theorem specDecode_any (v : Value) (c : List Nat) (w : World) (h : Ints w v (c.map Int.ofNat)) (hn : c.length ≤ 100) (hs : ∀ x ∈ c, x ≤ 1000000) :
    Calls Try.prog 47 #[v] w (RetI w (decL c.length c)) := by
  obtain ⟨p, cap, rfl, ⟨hx1, hx⟩, hxc⟩ := h
  rw [List.length_map] at *
  unfold maxLen at hx
  have Hxc := Lib.hid hxc
  have Hs := Lib.hid hs
  clear hxc hs
  go_enter Try.func47, Try.ntmps47
  go_wp2
  go_loopg [3, 4] c.length (fun g s3 i wr => ∃ k : Nat, k ≤ c.length ∧ g = c.length - k ∧ i = .int .i64 k ∧ Below w.heap.size w wr ∧ OwnI 3 wr w.heap.size wr.heap.size s3 (decL c.length (c.take k)))
  case atStart => exact ⟨0, Nat.zero_le _, rfl, rfl, below_alloc _ _, (OwnF.ints (xs := []) ((OwnF.made0 w _ _))).mono (Nat.le_refl _) (by simp)⟩
  case round =>
    obtain ⟨k, hk, rfl, rfl, hb, ho⟩ := hrel
    by_cases hlt : k < c.length
    · obtain ⟨b, off, rfl, hc⟩ := Hxc.out (by omega)
      have c1 := cell_below hb (hc k hlt)
      have e1 : iv (c.map Int.ofNat) k = .int .i64 (c.getD k 0 : Nat) := by simp [iv, List.getD_eq_getElem?_getD, hlt]
      rw [e1] at c1
      have hck : c.getD k 0 ≤ 1000000 := Hs.out _ (by simp [List.getD_eq_getElem?_getD, hlt])
      have e2 : decL c.length (c.take (k + 1)) = decGo (decL c.length (c.take k)) c.length 0 (c.getD k 0) := by
        rw [List.take_add_one, List.getElem?_eq_getElem hlt]
        simp only [Option.toList]
        rw [decL_snoc]
        simp [List.getD_eq_getElem?_getD, hlt]
      have hln := decL_len c.length c k
      generalize hX : c.getD k 0 = X at c1 hck e2
      generalize hO : decL c.length (c.take k) = out at ho e2 hln
      have E2 := Lib.hid e2
      have Ho := Lib.hid ho
      obtain ⟨p3, k3, rfl, _, _⟩ := ho.shape
      clear hc e1 e2 hX hO ho
      obtain ⟨wo, rfl⟩ : ∃ x : World, x = wr := ⟨_, rfl⟩
      go_wp2
      go_loopg [3, 5, 6] c.length (fun g s3 s5 s6 wr => ∃ left v : Nat, v ≤ c.length ∧ left ≤ 1000000 ∧ g = c.length - v ∧ s3 = .slice p3 out.length k3 ∧ s5 = .int .i64 left ∧ s6 = .int .i64 v ∧ Qt wo wr ∧ Hid (decGo out (c.length - v) v left = decGo out c.length 0 X))
      case atStart => exact ⟨X, 0, Nat.zero_le _, hck, rfl, rfl, rfl, rfl, Qt.refl _, rfl⟩
      case round =>
        obtain ⟨left, v, hv, hleft, rfl, rfl, rfl, rfl, hq, hg⟩ := hrel
        by_cases hvlt : v < c.length
        · by_cases hmem : (v : Int) ∈ out
          · have hc := l1Has_any _ out v wr (Ho.out.ints.qt hq)
            rw [decide_eq_true hmem] at hc
            have Hc := Lib.hid hc
            have hg2 : decGo out (c.length - (v + 1)) (v + 1) left = decGo out c.length 0 X := by
              rw [← hg.out, show c.length - v = (c.length - (v + 1)) + 1 by omega]
              simp [decGo, hmem]
            have Hg2 := Lib.hid hg2
            clear hc hg hg2 hmem
            go_wp2_with fail
            refine Hc.out.mono ?_
            rintro e w1 ⟨rfl, hq1⟩
            go_wp2_with fail
            go_roundg (c.length - (v + 1))
            case measure => omega
            case rel => exact ⟨left, v + 1, by omega, hleft, rfl, rfl, rfl, by go_num, hq.trans hq1, Hg2.out⟩
          · have hc := l1Has_any _ out v wr (Ho.out.ints.qt hq)
            rw [decide_eq_false hmem] at hc
            have Hc := Lib.hid hc
            by_cases hl0 : left = 0
            · subst hl0
              have hg2 : out ++ [(v : Int)] = decGo out c.length 0 X := by
                rw [← hg.out, show c.length - v = (c.length - (v + 1)) + 1 by omega]
                simp [decGo, hmem]
              have Hg2 := Lib.hid hg2
              clear hc hg hg2 hmem
              go_wp2_with fail
              refine Hc.out.mono ?_
              rintro e w1 ⟨rfl, hq1⟩
              have Hq1 := Lib.hid (hq.trans hq1)
              have Ho1 := Lib.hid (Ho.out.below (Hq1.out.below _))
              have Hb1 := Lib.hid (show out.length + 1 ≤ maxLen by unfold maxLen; omega)
              have Hb2 := Lib.hid (show (out.length + 1) * 8 ≤ 140737488355328 by omega)
              have Hsz : Hid (w1.heap.size = wo.heap.size) := by unfold Hid; rw [Hq1.out.size]
              have hsw := hb.size
              go_wp2_with (at_builtin; go_must (refine wpList_append_F rfl (.tmp 29) (.tmp 31) 24 rfl 3 (.int .i64 0) 8 Try.underlying24 info_int rfl w.heap.size wo.heap.size _ out.length (iv out) rfl ((Ho1.out.below (below_alloc _ _)).fn) (by have := Hsz.out; simp; omega) (by have := Hsz.out; simp; omega) _ _ _ rfl (rd_one _ _ _ rfl) (fun j _ => rfl) Hb1.out Hb2.out ?_; intro v' w' ho' hg'))
              have hsw' := hg'.size
              simp only [size_alloc] at hsw'
              have hsz := Hsz.out
              have hblow : Below w.heap.size wo w' := (Hq1.out.below _).trans (((below_alloc w1 _).mono (by omega)).trans (grownBy_below hg' Ho1.out.fn.blocks (Nat.le_refl _) (by simp; omega)))
              go_roundg (c.length - (k + 1))
              case measure => omega
              case rel =>
                refine ⟨k + 1, by omega, rfl, by go_num, hb.trans hblow, ?_⟩
                rw [E2.out, ← Hg2.out]
                refine OwnF.ints ?_
                rw [List.length_append]
                exact ho'.congr fun j hj => by
                  by_cases h : j < out.length
                  · simp [h, iv, List.getD_eq_getElem?_getD, List.getElem?_append_left h]
                  · have : j = out.length := by omega
                    subst this
                    simp [iv, List.getD_eq_getElem?_getD]
            · have hg2 : decGo out (c.length - (v + 1)) (v + 1) (left - 1) = decGo out c.length 0 X := by
                rw [← hg.out, show c.length - v = (c.length - (v + 1)) + 1 by omega]
                simp [decGo, hmem, hl0]
              have Hg2 := Lib.hid hg2
              clear hc hg hg2 hmem
              go_wp2_with fail
              refine Hc.out.mono ?_
              rintro e w1 ⟨rfl, hq1⟩
              go_wp2_with fail
              go_roundg (c.length - (v + 1))
              case measure => omega
              case rel => exact ⟨left - 1, v + 1, by omega, by omega, rfl, rfl, by go_num, by go_num, hq.trans hq1, Hg2.out⟩
        · have hv2 : v = c.length := by omega
          subst hv2
          have hg2 : out = decGo out c.length 0 X := by
            rw [← hg.out, Nat.sub_self]; rfl
          have Hg2 := Lib.hid hg2
          clear hg hg2
          go_wp2_with fail
          go_roundg (c.length - (k + 1))
          case measure => omega
          case rel =>
            refine ⟨k + 1, by omega, rfl, by go_num, hb.trans (hq.below _), ?_⟩
            rw [E2.out, ← Hg2.out, hq.size]
            exact Ho.out.below (hq.below _)
    · go_wp2
      go_ret
      obtain rfl : k = c.length := by omega
      rw [List.take_length] at ho
      exact ⟨_, rfl, ho, hb⟩

end Go.Proofs.Ytllmhicmikpfeaa
