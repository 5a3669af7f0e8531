/-
  A map keyed by seven numbers reads as a list of keys and numbers, up to multiples of 2^64. Plain.
  A map's entry asked for, and looked up again behind that.
  poly.add: a number added at a key of a map.
  Ranging over a map keyed by seven numbers; plus.
  The law's own helpers over []int: copy, compare, mark, look for the marks.
  The law's own helpers over matrices: how great, copy, compare, mark, look for the marks.
  What a permutation is: the reference's and the program's tests answer alike.
  Plain lists: rows put behind one another. No program, no memory.
  slices.Concat at []int, and the matrix of some rows.
  PermMatrix, the reference's and the program's: both give the matrix with 1 where the permutation says.
  MatrixOk, the reference's and the program's: both answer alike.
  slices.Clone at []int; the rows of a matrix; a multiple of a row added to another one.
-/
import Derived.Test.YtgebjjpcgakjgaaGreatJ1
import Derived.WalkKit
import Derived.BigRegion
import Derived.Test.YtgebjjpcgakjgaaGreatProg
import Derived.StillTailTactics
namespace Go.Proofs.YtgebjjpcgakjgaaGreat
set_option linter.all false
set_option maxRecDepth 100000
open Go.RowKit Go.Maps Go.WideMaps

abbrev Pl := List (List Int × Int)
/-- the sum over the entries -/
def Ev (P : Pl) (g : List Int → Int) : Int := match P with
  | [] => 0
  | p :: l => p.2 * g p.1 + Ev l g
theorem Ev_append (P Q : Pl) (g : List Int → Int) : Ev (P ++ Q) g = Ev P g + Ev Q g := by
  induction P with
  | nil => simp [Ev]
  | cons p l ih => simp only [List.cons_append, Ev, ih]; omega
def M64 : Int := 18446744073709551616
/-- alike but for multiples of 2^64 -/
def Cg (a b : Int) : Prop := ∃ m, a = b + M64 * m
theorem Cg.refl (a : Int) : Cg a a := ⟨0, by simp⟩
theorem Cg.of (a b : Int) (h : a = b) : Cg a b := h ▸ Cg.refl a
theorem Cg.symm {a b : Int} (h : Cg a b) : Cg b a := by
  obtain ⟨m, rfl⟩ := h
  exact ⟨-m, by rw [Int.mul_neg]; omega⟩
theorem Cg.trans {a b c : Int} (h : Cg a b) (h' : Cg b c) : Cg a c := by
  obtain ⟨m, rfl⟩ := h
  obtain ⟨m', rfl⟩ := h'
  exact ⟨m' + m, by rw [Int.mul_add]; omega⟩
theorem Cg.add {a b c e : Int} (h : Cg a b) (h' : Cg c e) : Cg (a + c) (b + e) := by
  obtain ⟨m, rfl⟩ := h
  obtain ⟨m', rfl⟩ := h'
  exact ⟨m + m', by rw [Int.mul_add]; omega⟩
theorem Cg.mul {a b c e : Int} (h : Cg a b) (h' : Cg c e) : Cg (a * c) (b * e) := by
  obtain ⟨m, rfl⟩ := h
  obtain ⟨m', rfl⟩ := h'
  refine ⟨m * e + b * m' + M64 * m * m', ?_⟩
  simp only [Int.add_mul, Int.mul_add, Int.mul_assoc, Int.mul_left_comm, Int.mul_comm]
  omega
theorem Cg.neg {a b : Int} (h : Cg a b) : Cg (-a) (-b) := by
  obtain ⟨m, rfl⟩ := h
  exact ⟨-m, by rw [Int.mul_neg]; omega⟩

open Classical in
noncomputable def unkl (l : Lit) : List Int := if h : ∃ e, l = kl e ∧ K7 1000000 e then h.choose else []
theorem K7.mono {d d' : Nat} {e : List Int} (h : K7 d e) (hd : d ≤ d') : K7 d' e := ⟨h.1, fun x hx => by have := h.2 x hx; omega⟩
theorem unkl_kl {e : List Int} {d : Nat} (h : K7 d e) (hd : d ≤ 1000000) : unkl (kl e) = e := by
  have hx : ∃ e', kl e = kl e' ∧ K7 1000000 e' := ⟨e, rfl, h.mono hd⟩
  unfold unkl
  rw [dif_pos hx]
  exact (kl_inj (h.mono hd) (Nat.le_refl _) hx.choose_spec.2 (Nat.le_refl _) hx.choose_spec.1).symm
/-- a map's datum adds up as a list does; its keys are from 0 to d -/
structure PolM (d : Nat) (D : DU) (P : Pl) : Prop where
  tidy : Tidy D
  keys : ∀ l, has D l = true → ∃ e, l = kl e ∧ K7 d e
  sum : ∀ g : List Int → Int, Cg (SmD D fun l => g (unkl l)) (Ev P g)
  nz : ∀ l, has D l = true → ∀ z, D.atKey l z ≠ .lit (.int .i64 0)
theorem PolM.empty (d : Nat) : PolM d (.map []) [] := ⟨tidy_empty, fun l h => by simp [has] at h, fun g => Cg.refl _, fun l h => by simp [has] at h⟩
theorem PolM.mono {d d' : Nat} {D : DU} {P : Pl} (h : PolM d D P) (hd : d ≤ d') : PolM d' D P :=
  ⟨h.tidy, fun l hl => by obtain ⟨e, h1, h2⟩ := h.keys l hl; exact ⟨e, h1, h2.mono hd⟩, h.sum, h.nz⟩
theorem kl_lit (e : List Int) : WideAt.IsKeyLit (kl e) := trivial
/-- a number added at a key -/
def addD (D : DU) (k : Lit) (s : Int) : DU := if s = 0 then (D.put k (.lit (.int .i64 s))).del k else D.put k (.lit (.int .i64 s))
theorem PolM.add {d : Nat} {D : DU} {P : Pl} (h : PolM d D P) (hd : d ≤ 1000000) {e : List Int} (he : K7 d e) {c0 c s : Int}
    (hat : D.atKey (kl e) (.lit (.int .i64 0)) = .lit (.int .i64 c0)) (hs : Cg s (c0 + c)) : PolM d (addD D (kl e) s) (P ++ [(e, c)]) := by
  have ht := h.tidy.put (kl_lit e) (.lit (.int .i64 s))
  have hput : ∀ l, has (D.put (kl e) (.lit (.int .i64 s))) l = true → ∃ e', l = kl e' ∧ K7 d e' := fun l hl => by
    by_cases hk : l = kl e
    · exact ⟨e, hk, he⟩
    · rw [has_put_other hk] at hl
      exact h.keys l hl
  have hsum : ∀ g : List Int → Int, Cg (SmD (addD D (kl e) s) fun l => g (unkl l)) (Ev (P ++ [(e, c)]) g) := fun g => by
    have a := SmD_del h.tidy (kl_lit e) (fun l => g (unkl l))
    have b := SmD_put h.tidy (k := kl e) (fun l => g (unkl l)) (.lit (.int .i64 s))
    have b2 := del_put h.tidy (kl_lit e) (fun l => g (unkl l)) (.lit (.int .i64 s))
    have e1 : (SmD (addD D (kl e) s) fun l => g (unkl l)) = (SmD (D.del (kl e)) fun l => g (unkl l)) + s * g e := by
      unfold addD
      split
      · rename_i h0
        rw [b2, h0]; simp
      · rw [b]; simp only [coef, unkl_kl he hd]
    rw [e1, Ev_append]
    rw [hat] at a
    simp only [coef, unkl_kl he hd] at a
    have hsm := h.sum g
    rw [a] at hsm
    have h1 : Cg (s * g e) (c0 * g e + c * g e) := by rw [← Int.add_mul]; exact hs.mul (Cg.refl _)
    have h2 := (Cg.refl (SmD (D.del (kl e)) fun l => g (unkl l))).add h1
    have h3 := hsm.add (Cg.refl (c * g e))
    refine h2.trans ?_
    rw [← Int.add_assoc]
    simpa [Ev] using h3
  unfold addD at hsum ⊢
  split at hsum
  · rename_i h0
    rw [if_pos h0]
    refine ⟨ht.del _, fun l hl => ?_, hsum, fun l hl z => ?_⟩
    · by_cases hk : l = kl e
      · exact ⟨e, hk, he⟩
      · rw [has_del_other hk] at hl
        exact hput l hl
    · by_cases hk : l = kl e
      · rw [hk, has_del_same] at hl; cases hl
      · rw [has_del_other hk, has_put_other hk] at hl
        rw [atKey_del_other hk, atKey_put_other hk]
        exact h.nz l hl z
  · rename_i h0
    rw [if_neg h0]
    refine ⟨ht, hput, hsum, fun l hl z => ?_⟩
    by_cases hk : l = kl e
    · rw [hk, atKey_put_same h.tidy.isMap (kl_lit e)]
      intro e2
      injection e2 with e2
      injection e2 with _ e2
      exact h0 e2
    · rw [has_put_other hk] at hl
      rw [atKey_put_other hk]
      exact h.nz l hl z

end Go.Proofs.YtgebjjpcgakjgaaGreat

namespace Go.Proofs.YtgebjjpcgakjgaaGreat
set_option linter.all false
set_option maxRecDepth 100000
open Go.RowKit Go.Maps Go.WideMaps Go.WideElems Go.MapKept Go.ChangeMaps Go.ChangeShapes

section
variable {H : Type} {P : Program} {w : World} {t k e : TypeId} {R : Value → Option (DataW H × List MemPlace)} {b : Nat} {es : Array MapEntry} {clock : Nat}
theorem entry_es (K : KeyLaw P k) (ht : P.underlying t = some (.map k e)) {z : Value} (hz : ∀ u : World, (zeroValue e).run P u = .ok z u) (hb : w.heap[b]? = some (.map es clock)) (F : Fit P k R es clock)
    {key : Value} {kl : Lit} (hkey : keyOf P k key = some kl) {v0 : Value} {st : Nat} {es1 : Array MapEntry} {clock1 : Nat}
    (hrun : (Instr.mapEntry t (.map (some b)) key).run P w = .ok (.tuple #[v0, goInt st]) (setBlock w b (.map es1 clock1))) :
    (es1 = es ∧ ∃ e0 ∈ es.toList, e0.key = key ∧ v0 = e0.val) ∨ (es1 = es.push ⟨key, z, clock⟩ ∧ v0 = z ∧ ∀ x ∈ es.toList, x.key ≠ key) := by
  have hs : ∀ {es' : Array MapEntry} {c' : Nat}, setBlock w b (.map es1 clock1) = setBlock w b (.map es' c') → es1 = es' := fun h => by
    have h1 := heap_setBlock_same hb (.map es1 clock1)
    rw [h, heap_setBlock_same hb] at h1
    injection h1 with h1
    injection h1 with h1 _
    exact h1.symm
  rcases K.find w hkey es.toList F.keys with ⟨h1, h2⟩ | ⟨j, e0, h1, h2, h3⟩
  · have e1 : (Instr.mapEntry t (.map (some b)) key).run P w = .ok (.tuple #[z, goInt clock]) (setBlock w b (.map (es.push ⟨key, z, clock⟩) (clock + 1))) := by
      simp [Instr.mapEntry, run_underlying ht, MapKept.run_getObj_map hb, K.check w false hkey, h1, hz, MapKept.run_setObj_map _ hb, Result.andThen, setBlock]
    rw [e1] at hrun
    injection hrun with hv hw
    injection hv with hv
    have : z = v0 := by
      have := congrArg (fun a => a[0]?) hv
      simpa using this
    exact .inr ⟨hs hw.symm, this.symm, h2⟩
  · have hj : es[j]? = some e0 := by simpa using h2
    have e1 : (Instr.mapEntry t (.map (some b)) key).run P w = .ok (.tuple #[e0.val, goInt e0.born]) (setBlock w b (.map (es.modify j fun e => { e with key := key }) clock)) := by
      simp [Instr.mapEntry, run_underlying ht, MapKept.run_getObj_map hb, K.check w false hkey, h1, hj, h3, K.stays w hkey, MapKept.run_setObj_map _ hb, Result.andThen, setBlock]
    have hsame : es.modify j (fun e => { e with key := key }) = es := by
      apply Array.ext'
      rw [Array.toList_modify, modify_eq_set _ _ _ _ h2]
      have : ({ e0 with key := key } : MapEntry) = e0 := by rw [← h3]
      rw [this]
      exact set_self _ _ _ h2
    rw [e1, hsame] at hrun
    injection hrun with hv hw
    injection hv with hv
    have : e0.val = v0 := by
      have := congrArg (fun a => a[0]?) hv
      simpa using this
    exact .inl ⟨hs hw.symm, e0, List.mem_of_getElem? h2, h3, this.symm⟩
/-- a look-up finds what stands at the one entry of its key -/
theorem look_at (K : KeyLaw P k) (ht : P.underlying t = some (.map k e)) {u : World} (hb : u.heap[b]? = some (.map es clock)) (hks : ∀ x ∈ es.toList, ∃ l, keyOf P k x.key = some l)
    {key : Value} {kl : Lit} (hkey : keyOf P k key = some kl) {v0 : Value} (hv : ∀ x ∈ es.toList, x.key = key → x.val = v0) (hex : ∃ x ∈ es.toList, x.key = key) :
    (Instr.lookup t (.map (some b)) key false).run P u = .ok v0 u := by
  rcases K.find u hkey es.toList hks with ⟨h1, h2⟩ | ⟨j, e0, h1, h2, h3⟩
  · obtain ⟨x, hx, hxk⟩ := hex
    exact absurd hxk (h2 x hx)
  · have e1 := hv e0 (List.mem_of_getElem? h2) h3
    simp [Instr.lookup, run_underlying ht, MapKept.run_getObj_map hb, K.check u _ hkey, h1, e1, Result.andThen]
theorem entry_look (K : KeyLaw P k) (ht : P.underlying t = some (.map k e)) {z : Value} (hz : ∀ u : World, (zeroValue e).run P u = .ok z u) (hb : w.heap[b]? = some (.map es clock)) (F : Fit P k R es clock)
    {key : Value} {kl : Lit} (hkey : keyOf P k key = some kl) {v0 : Value} {st : Nat} {es1 : Array MapEntry} {clock1 : Nat}
    (hrun : (Instr.mapEntry t (.map (some b)) key).run P w = .ok (.tuple #[v0, goInt st]) (setBlock w b (.map es1 clock1))) :
    (Instr.lookup t (.map (some b)) key false).run P (setBlock w b (.map es1 clock1)) = .ok v0 (setBlock w b (.map es1 clock1)) ∧ (Instr.lookup t (.map (some b)) key false).run P w = .ok v0 w := by
  have hne : es.toList.Pairwise (fun x y => x.key ≠ y.key) := ((stamped_iff es clock).1 F.stamped).2.2
  rcases entry_es K ht hz hb F hkey hrun with ⟨rfl, e0, he, hk, rfl⟩ | ⟨rfl, rfl, h2⟩
  · have hall : ∀ x ∈ es1.toList, x.key = key → x.val = e0.val := fun x hx hxk => by rw [entry_eq_of_key hne hx he (hxk.trans hk.symm)]
    exact ⟨look_at K ht (heap_setBlock_same hb _) F.keys hkey hall ⟨e0, he, hk⟩, look_at K ht hb F.keys hkey hall ⟨e0, he, hk⟩⟩
  · refine ⟨look_at K ht (heap_setBlock_same hb _) (fun x hx => ?_) hkey (fun x hx hxk => ?_) ⟨⟨key, v0, clock⟩, by simp, rfl⟩, ?_⟩
    · simp only [Array.toList_push, List.mem_append, List.mem_singleton] at hx
      rcases hx with hx | rfl
      · exact F.keys x hx
      · exact ⟨kl, hkey⟩
    · simp only [Array.toList_push, List.mem_append, List.mem_singleton] at hx
      rcases hx with hx | rfl
      · exact absurd hxk (h2 x hx)
      · rfl
    · rcases K.find w hkey es.toList F.keys with ⟨h1, _⟩ | ⟨j, e0, _, h3, h4⟩
      · simp [Instr.lookup, run_underlying ht, MapKept.run_getObj_map hb, K.check w _ hkey, h1, hz, Result.andThen]
      · exact absurd h4 (h2 e0 (List.mem_of_getElem? h3))
end

end Go.Proofs.YtgebjjpcgakjgaaGreat

namespace Go.Proofs.YtgebjjpcgakjgaaGreat
set_option linter.all false
set_option maxRecDepth 100000
open Go.RowKit Go.Maps Go.WideMaps Go.WideElems Go.MapKept Go.ChangeMaps Go.ChangeShapes

abbrev OwnMp (w : World) (b n : Nat) (D : DU) : Prop := w.ownsMap Tryz.prog 75 (plainElem (H := Unit) Tryz.prog 3) b n D

theorem blk7 {w : World} {b : Nat} {x0 x1 x2 x3 x4 x5 x6 : Value} {T : TypeId} (h : w.heap[b]? = some (.cells #[x0, x1, x2, x3, x4, x5, x6] T (0, 0))) :
    w.cell? ⟨b, 0, none⟩ = some x0 ∧ w.cell? ⟨b, 1, none⟩ = some x1 ∧ w.cell? ⟨b, 2, none⟩ = some x2 ∧ w.cell? ⟨b, 3, none⟩ = some x3 ∧ w.cell? ⟨b, 4, none⟩ = some x4 ∧ w.cell? ⟨b, 5, none⟩ = some x5 ∧ w.cell? ⟨b, 6, none⟩ = some x6 ∧ (∀ j, w.frozen? ⟨b, j, none⟩ = false) ∧ b < w.heap.size :=
  ⟨cell_of_blk h rfl, cell_of_blk h rfl, cell_of_blk h rfl, cell_of_blk h rfl, cell_of_blk h rfl, cell_of_blk h rfl, cell_of_blk h rfl, free_of_blk h, (Array.getElem?_eq_some_iff.1 h).1⟩
/-- what the region of poly.add meets -/
theorem add_facts {u : World} {b n : Nat} {D : DU} {key : Value} {k0 : Lit} (hown : OwnMp u b n D) (hn : n < 1000000000000000) (hkey : keyOf Tryz.prog 75 key = some k0) :
    ∃ (c0 : Int) (st : Nat) (W1 : World), (Instr.lookup 61 (.map (some b)) key false).run Tryz.prog u = .ok (.int .i64 c0) u ∧
      D.atKey k0 (.lit (.int .i64 0)) = .lit (.int .i64 c0) ∧
      (Instr.mapEntry 61 (.map (some b)) key).run Tryz.prog u = .ok (.tuple #[.int .i64 c0, .int .i64 (st : Int)]) W1 ∧
      (Instr.lookup 61 (.map (some b)) key false).run Tryz.prog W1 = .ok (.int .i64 c0) W1 ∧
      u.grownBy W1 (some b) ∧ W1.heap.size = u.heap.size ∧
      ∀ s : Int, (Lit.int .i64 s).wf = true → ∃ W2, (Instr.entryStore 61 (.map (some b)) (.int .i64 (st : Int)) (.int .i64 s)).run Tryz.prog W1 = .ok () W2 ∧
        OwnMp W2 b (n + 1) (D.put k0 (.lit (.int .i64 s))) ∧ u.grownBy W2 (some b) ∧ W2.heap.size = u.heap.size := by
  have hown' := hown
  obtain ⟨c0, hl0, hat, hw0⟩ := hown.lookup_int klaw und41 undI (zeroI _) hkey
  obtain ⟨es, clock, hb, F, hs, hD⟩ := hown
  obtain ⟨v0, st, es1, clock1, h1, _, h3⟩ := entry_then_store arr7.law und41 zeroI hb F hkey
  have hlk := entry_look arr7.law und41 zeroI hb F hkey h1
  have hv : v0 = .int .i64 c0 := by
    have := hlk.2
    rw [hl0] at this
    injection this with this
    exact this.symm
  subst hv
  have hsz : ∀ o, (setBlock u b o).heap.size = u.heap.size := fun o => by simp [setBlock]
  have hgr : ∀ o, u.grownBy (setBlock u b o) (some b) := fun o => ⟨rfl, rfl, rfl, by rw [hsz]; exact Nat.le_refl _, fun i _ hi => heap_setBlock_other hb _ (fun e => hi (by rw [e]))⟩
  refine ⟨c0, st, _, hl0, hat, h1, hlk.1, hgr _, hsz _, fun s hs => ?_⟩
  obtain ⟨es', clock', hst, hup⟩ := h3 _ (.int .i64 s) (heap_setBlock_same hb _)
  obtain ⟨w', hrun, ho', hg'⟩ := hown'.update klaw und41 (by unfold maxLen; omega) hkey (plainElem_int undI hs)
  rw [hup] at hrun
  injection hrun with _ hrun
  have hh : setBlock (setBlock u b (.map es1 clock1)) b (.map es' clock') = setBlock u b (.map es' clock') := by
    simp [setBlock, Array.setIfInBounds_setIfInBounds]
  rw [hh] at hst
  exact ⟨_, hst, by rw [hrun]; exact ho', hgr _, hsz _⟩

theorem gb_undrew {u W : World} {r : Option Nat} (h : u.drew.grownBy W r) : u.grownBy W r := ⟨h.os, h.tape, h.output, h.size, h.block⟩
theorem cg_wrap (x : Int) : Cg (wrap64 x) x := ⟨-((x + 9223372036854775808) / 18446744073709551616), by unfold wrap64 M64; omega⟩
set_option maxRecDepth 100000 in
set_option maxHeartbeats 1000000 in
theorem add_any (b n d : Nat) (D : DU) (P : Pl) (e : List Int) (c : Int) (w : World) (hown : OwnMp w b n D) (hp : PolM d D P) (he : K7 d e) (hd : d ≤ 1000000) (hn : n < 1000000000000000) :
    Calls Tryz.prog 70 #[.map (some b), kv e, .int .i64 c] w fun e' w' => e' = .returned (.tuple #[]) ∧ ∃ D', OwnMp w' b (n + 1) D' ∧ PolM d D' (P ++ [(e, c)]) ∧ w.grownBy w' (some b) := by
  have hkey := keyOf_kv he hd
  obtain ⟨k0, hk0⟩ : ∃ k, k = kl e := ⟨_, rfl⟩
  have hadd := fun c0 s => PolM.add hp hd he (c0 := c0) (c := c) (s := s)
  rw [← hk0] at hkey hadd
  have Hadd := Lib.hid hadd
  clear hadd hk0
  obtain ⟨hl, hr⟩ := he
  match e, hl with
  | [a0, a1, a2, a3, a4, a5, a6], _ =>
  clear hr
  have hown1 : OwnMp (w.alloc (.cells #[.int .i64 a0, .int .i64 a1, .int .i64 a2, .int .i64 a3, .int .i64 a4, .int .i64 a5, .int .i64 a6] 75)).drew b n D := hown.alloc _
  have Hg0 := Lib.hid (World.grownBy_alloc w (.cells #[.int .i64 a0, .int .i64 a1, .int .i64 a2, .int .i64 a3, .int .i64 a4, .int .i64 a5, .int .i64 a6] 75) none)
  have hbw := hown.lt
  have hq := heap_alloc_top w (.cells #[.int .i64 a0, .int .i64 a1, .int .i64 a2, .int .i64 a3, .int .i64 a4, .int .i64 a5, .int .i64 a6] 75)
  obtain ⟨u, hu⟩ : ∃ u, u = w.alloc (.cells #[.int .i64 a0, .int .i64 a1, .int .i64 a2, .int .i64 a3, .int .i64 a4, .int .i64 a5, .int .i64 a6] 75) := ⟨_, rfl⟩
  obtain ⟨B, hB⟩ : ∃ B, B = w.heap.size := ⟨_, rfl⟩
  rw [← hu] at hown1 Hg0 hq
  have hkey' : keyOf Tryz.prog 75 (.agg #[.int .i64 a0, .int .i64 a1, .int .i64 a2, .int .i64 a3, .int .i64 a4, .int .i64 a5, .int .i64 a6]) = some k0 := hkey
  obtain ⟨c0, st, W1, hl0, hat, hent, hl1, hg1, hsz1, hst⟩ := add_facts hown1 hn hkey'
  obtain ⟨s, hs⟩ : ∃ s, s = wrap64 (c0 + c) := ⟨_, rfl⟩
  show Calls Tryz.prog 70 #[.map (some b), .agg #[.int .i64 a0, .int .i64 a1, .int .i64 a2, .int .i64 a3, .int .i64 a4, .int .i64 a5, .int .i64 a6], .int .i64 c] w _
  go_enter Tryz.func70, Tryz.ntmps70
  go_wp2_with fail
  rw [← hu, ← hB]
  rw [← hB] at hq hbw
  obtain ⟨f0, f1, f2, f3, f4, f5, f6, _, _⟩ := blk7 (w := u.drew) hq
  have hq1 : W1.heap[B]? = some (.cells #[.int .i64 a0, .int .i64 a1, .int .i64 a2, .int .i64 a3, .int .i64 a4, .int .i64 a5, .int .i64 a6] 75 (0, 0)) := (hg1.block B (Array.getElem?_eq_some_iff.1 hq).1 (by intro h; injection h with h; omega)).trans hq
  obtain ⟨g0, g1, g2, g3, g4, g5, g6, _, _⟩ := blk7 hq1
  obtain ⟨W2, hst2, ho2, hg2, hsz2⟩ := hst s (by rw [hs]; exact wrap64_wf _)
  have hq2 : W2.heap[B]? = some (.cells #[.int .i64 a0, .int .i64 a1, .int .i64 a2, .int .i64 a3, .int .i64 a4, .int .i64 a5, .int .i64 a6] 75 (0, 0)) := (hg2.block B (Array.getElem?_eq_some_iff.1 hq).1 (by intro h; injection h with h; omega)).trans hq
  obtain ⟨h0, h1, h2, h3, h4, h5, h6, _, _⟩ := blk7 hq2
  rw [hs] at hst2
  have Hown1 := Lib.hid hown1
  have Hst := Lib.hid hst
  have Hat := Lib.hid hat
  have Ho2 := Lib.hid ho2
  have Hg2 := Lib.hid hg2
  have Hs := Lib.hid hs
  have Hhu := Lib.hid hu
  have Hq2 := Lib.hid hq2
  have Htd := Lib.hid hp.tidy
  clear hown hown1 hst hat hg1 hu hq hq1 hq2 hg2 ho2 hs hp hbw hkey hB
  go_region
  have hown2 := Ho2.out
  obtain ⟨c1, hl2, hat2, _⟩ := hown2.lookup_int klaw und41 undI (zeroI _) hkey'
  have hc1 : c1 = s := by
    have hk : WideAt.IsKeyLit k0 := klaw.key hkey'
    rw [atKey_put_same Htd.out.isMap hk] at hat2
    injection hat2 with hat2
    injection hat2 with _ hat2
    exact hat2.symm
  subst hc1
  have hws : Cg c1 (c0 + c) := by rw [Hs.out]; exact cg_wrap _
  have hfin : ∀ (W : World), OwnMp W b (n + 1) (addD D k0 c1) → W2.grownBy W (some b) → ∃ D', OwnMp W b (n + 1) D' ∧ PolM d D' (P ++ [([a0, a1, a2, a3, a4, a5, a6], c)]) ∧ w.grownBy W (some b) := fun W h1 h2 =>
    ⟨_, h1, Hadd.out c0 c1 Hat.out hws, ((Hg0.out.but (some b)).trans (gb_undrew Hg2.out)).trans h2⟩
  have Hfin := Lib.hid hfin
  clear hfin hws hat2 hown2
  by_cases hz : c1 = 0
  · have hz' : (c1 == 0) = true := by simp [hz]
    have Hz := Lib.hid hz
    clear hz
    go_wp2_with (first | (at_delete; refine wpList_delete_own _ rfl _ _ 61 75 rfl 3 klaw und41 _ b (n + 1) _ rfl Ho2.out _ _ rfl hkey' ?_; intro w3 hown3 hturn3) | fail)
    go_end0
    exact ⟨rfl, Hfin.out _ (by unfold addD; rw [if_pos Hz.out]; exact hown3) hturn3.grown⟩
  · have hz' : (c1 == 0) = false := by simp [hz]
    go_wp2_with fail
    go_end0
    exact ⟨rfl, Hfin.out _ (by unfold addD; rw [if_neg hz]; exact Ho2.out) (World.grownBy.refl _ _)⟩

end Go.Proofs.YtgebjjpcgakjgaaGreat

namespace Go.Proofs.YtgebjjpcgakjgaaGreat
set_option linter.all false
set_option maxRecDepth 100000
open Go.RowKit Go.Maps Go.WideMaps Go.WideElems Go.MapKept Go.ChangeMaps Go.ChangeShapes

theorem PolM.alt {d : Nat} {D : DU} {P Q : Pl} (h : PolM d D P) (hq : ∀ g, Cg (Ev P g) (Ev Q g)) : PolM d D Q := ⟨h.tidy, h.keys, fun g => (h.sum g).trans (hq g), h.nz⟩
abbrev RanP (w : World) (b r n : Nat) (D : DU) (left : Lit → Bool) (cnt : Nat) : Prop := w.ranges Tryz.prog 75 (plainElem (H := Unit) Tryz.prog 3) b r n D left cnt

section
variable {P0 : Program} (w : World) {ops : Array Oper} {rest : List Oper} {o : Oper} {a : Act} {Q : Exit → Act → World → Prop}
theorem wpList_next_poly (hg : o.guard = none) (it : Operand) (hop : o.op = Op.next it false) (b r n d : Nat) (D : DU) (P : Pl) (left : Lit → Bool) (cnt : Nat)
    (hit : a.eval it = .pointer (some ⟨r, 0, none⟩)) (h : RanP w b r n D left cnt) (hp : PolM d D P) (hd : d ≤ 1000000) (hleft : ∀ l, left l = true → has D l = true)
    (hDone : cnt = 0 → (∀ kl, left kl = false) → wpList Tryz.prog ops Q rest (a.put o.dst (.tuple #[.bool false])) w)
    (hMore : ∀ (a0 a1 a2 a3 a4 a5 a6 c : Int) (w' : World) (cnt' : Nat), K7 d [a0, a1, a2, a3, a4, a5, a6] → left (kl [a0, a1, a2, a3, a4, a5, a6]) = true → (Lit.int .i64 c).wf = true →
      D.atKey (kl [a0, a1, a2, a3, a4, a5, a6]) (.lit (.int .i64 0)) = .lit (.int .i64 c) → RanP w' b r n D (fun z => left z && !z.sameKey (kl [a0, a1, a2, a3, a4, a5, a6])) cnt' → cnt' < cnt →
      w.grownBy w' (some r) → w'.heap.size = w.heap.size →
      (Instr.entry (.pointer (some ⟨r, 0, none⟩))).run Tryz.prog w' = .ok (.tuple #[.agg #[.int .i64 a0, .int .i64 a1, .int .i64 a2, .int .i64 a3, .int .i64 a4, .int .i64 a5, .int .i64 a6], .int .i64 c]) w' →
      wpList Tryz.prog ops Q rest (a.put o.dst (.tuple #[.bool true, .agg #[.int .i64 a0, .int .i64 a1, .int .i64 a2, .int .i64 a3, .int .i64 a4, .int .i64 a5, .int .i64 a6], .int .i64 c])) w') :
    wpList Tryz.prog ops Q (o :: rest) a w :=
  wpList_next_ranges w hg it hop 75 klaw (plainElem Tryz.prog 3) (fun x : Value => x) (Value.int .i64) (fun key _ _ => ⟨key, rfl⟩) (fun v y hv => by obtain ⟨c, rfl, _⟩ := plainElem_int_inv undI hv; exact ⟨c, rfl⟩)
    b r n D left cnt hit h hDone (fun x c l y w' cnt' hkey hlk hv hat hrg hlt hgr hsz hen => by
      obtain ⟨e, rfl, he⟩ := hp.keys l (hleft l hlk)
      obtain rfl := klaw.inj hkey (keyOf_kv he hd)
      obtain ⟨c', ec, rfl, hwc⟩ := plainElem_int_inv undI hv
      cases ec
      obtain ⟨hl, hr⟩ := he
      match e, hl with
      | [a0, a1, a2, a3, a4, a5, a6], hl => exact hMore a0 a1 a2 a3 a4 a5 a6 c w' cnt' ⟨hl, hr⟩ hlk hwc (hat _) hrg hlt hgr hsz hen)
end

/-- what is gathered and what is left add up -/
def Gath (D : DU) (P : Pl) (T : (List Int → Int) → List Int → Int) (left : Lit → Bool) (A : Pl) : Prop :=
  ∀ g : List Int → Int, Cg (Ev A g + SmK D left fun l => T g (unkl l)) (Ev P (T g))
theorem hm_of {w : World} {b n : Nat} {D : DU} (h : OwnMp w b n D) : ∀ es, D = .map es → ∀ p ∈ es, WideAt.IsKeyLit p.1 := fun es he p hp => by
  obtain ⟨es', h1, _, h3⟩ := h.entries klaw
  rw [he] at h1
  injection h1 with h1
  subst h1
  exact h3 p hp
theorem Gath.start {w : World} {b n d : Nat} {D : DU} {P : Pl} {T : (List Int → Int) → List Int → Int} (h : OwnMp w b n D) (hp : PolM d D P) : Gath D P T (has D) [] := fun g => by
  have e := SmK_all hp.tidy (fun l hl => by obtain ⟨e, rfl, _⟩ := hp.keys l hl; exact kl_lit e) (hm_of h) (fun l => T g (unkl l))
  rw [e]
  simpa [Ev] using hp.sum (T g)
theorem Gath.step {d : Nat} {D : DU} {P : Pl} {T : (List Int → Int) → List Int → Int} {left : Lit → Bool} {A : Pl} (h : Gath D P T left A) (ht : Tidy D) {e : List Int} (he : K7 d e) (hd : d ≤ 1000000) (hl : left (kl e) = true) {c : Int}
    (hat : D.atKey (kl e) (.lit (.int .i64 0)) = .lit (.int .i64 c)) {A' : Pl} (hA : ∀ g, Cg (Ev A' g) (Ev A g + c * T g e)) : Gath D P T (fun z => left z && !z.sameKey (kl e)) A' := fun g => by
  have h0 := h g
  rw [SmK_step ht (kl_lit e) hl, hat] at h0
  simp only [coef, unkl_kl he hd] at h0
  refine ((hA g).add (Cg.refl _)).trans ?_
  rw [Int.add_assoc]
  exact h0
theorem Gath.end {D : DU} {P : Pl} {T : (List Int → Int) → List Int → Int} {left : Lit → Bool} {A : Pl} (h : Gath D P T left A) (hl : ∀ l, left l = false) : ∀ g, Cg (Ev A g) (Ev P (T g)) := fun g => by
  have := h g
  rw [SmK_none hl] at this
  simpa using this

/-- a polynomial as a value -/
def PolV (w : World) (v : Value) (d n : Nat) (P : Pl) : Prop := ∃ b D, v = .map (some b) ∧ OwnMp w b n D ∧ PolM d D P
theorem PolV.below {w w' : World} {v : Value} {d n : Nat} {P : Pl} (h : PolV w v d n P) (hb : Below w.heap.size w w') : PolV w' v d n P := by
  obtain ⟨b, D, rfl, h1, h2⟩ := h
  have hlt := h1.lt
  obtain ⟨es, clock, hb', F, hs, hD⟩ := h1
  exact ⟨b, D, rfl, ⟨es, clock, (hb.block b hlt).trans hb', F, hs, hD⟩, h2⟩
theorem PolV.alt {w : World} {v : Value} {d n : Nat} {P Q : Pl} (h : PolV w v d n P) (hq : ∀ g, Cg (Ev P g) (Ev Q g)) : PolV w v d n Q := by
  obtain ⟨b, D, rfl, h1, h2⟩ := h
  exact ⟨b, D, rfl, h1, h2.alt hq⟩
theorem PolV.mono {w : World} {v : Value} {d n d' n' : Nat} {P : Pl} (h : PolV w v d n P) (hd : d ≤ d') (hn : n ≤ n') : PolV w v d' n' P := by
  obtain ⟨b, D, rfl, h1, h2⟩ := h
  exact ⟨b, D, rfl, h1.mono hn, h2.mono hd⟩

end Go.Proofs.YtgebjjpcgakjgaaGreat

namespace Go.Proofs.YtgebjjpcgakjgaaGreat
set_option linter.all false
open Go.RowKit

theorem info_int : (Tryz.prog.info? 3).map (fun i => (i.zero, i.size, i.bytes)) = some (some (.int .i64 0), 1, 8) := by kernel_rfl

theorem eq_snoc {xs ys : List Int} {k : Nat} (h : ∀ j, j < k → xs.getD j 0 = ys.getD j 0) (e : xs.getD k 0 = ys.getD k 0) : ∀ j, j < k + 1 → xs.getD j 0 = ys.getD j 0 := by
  intro j hj
  by_cases hk : j = k
  · subst hk; exact e
  · exact h j (by omega)

/-- is slot after slot m, m+1, ..? then what comes behind; else -1 -/
def heldI (xs : List Int) (m : Int) : Int := if xs = runs m xs.length then m + xs.length else -1

theorem heldI_runs (m : Int) (n : Nat) : heldI (runs m n) m = m + n := by simp [heldI, length_runs]

end Go.Proofs.YtgebjjpcgakjgaaGreat

namespace Go.Proofs.YtgebjjpcgakjgaaGreat
set_option linter.all false
open Go.RowKit

/-- a matrix: the prime, the numbers of rows and columns, the numbers row by row -/
structure Mx where
  P : Int
  R : Int
  C : Int
  D : List Int

def mxZero : Mx := ⟨0, 0, 0, []⟩

/-- a call returned this matrix, in new memory, and changed nothing that was there -/
def RetM (w : World) (m : Mx) (e : Ending) (w' : World) : Prop :=
  ∃ u, e = .returned (.agg #[.int .i64 m.P, .int .i64 m.R, .int .i64 m.C, u]) ∧ OwnI 3 w' w.heap.size w'.heap.size u m.D ∧ Below w.heap.size w w'
/-- a call returned this matrix and this bool .. -/
def RetMB (w : World) (m : Mx) (b : Bool) (e : Ending) (w' : World) : Prop :=
  ∃ u, e = .returned (.tuple #[.agg #[.int .i64 m.P, .int .i64 m.R, .int .i64 m.C, u], .bool b]) ∧ OwnI 3 w' w.heap.size w'.heap.size u m.D ∧ Below w.heap.size w w'

/-- what is left of a limit behind n elements; -1: none -/
def szI (left : Int) (n : Nat) : Int := if left < n then -1 else left - n

/-- two matrices are the same -/
def mxSame (P R C : Int) (xs : List Int) (P' R' C' : Int) (ys : List Int) : Bool := decide (P = P' ∧ R = R' ∧ C = C' ∧ xs = ys)

theorem Frm.below_left {lo hi : Nat} {a b c : World} (h : Below a.heap.size a b) (k : Frm lo hi b c) : Frm lo hi a c := (Frm.of_below h lo hi).trans k

theorem heldI_neg (xs : List Int) (m : Int) (h0 : 0 ≤ m) : heldI xs m = -1 ∨ 0 ≤ heldI xs m := by
  unfold heldI; split <;> omega
theorem heldI_le (xs : List Int) (m : Int) (h0 : 0 ≤ m) : heldI xs m ≤ m + xs.length := by
  unfold heldI; split <;> omega

theorem Frm.blk {lo hi : Nat} {w w' : World} {b : Nat} {o : Obj} (hf : Frm lo hi w w') (h : w.heap[b]? = some o) (ho : b < lo ∨ hi ≤ b) : w'.heap[b]? = some o := by
  rw [hf.block b (blk_lt h) ho]; exact h
theorem OwnI.lohi {T : TypeId} {w : World} {lo hi : Nat} {v : Value} {xs : List Int} (h : OwnI T w lo hi v xs) : xs.length ≤ maxLen := by
  obtain ⟨p, cap, _, h1, h2⟩ := h.shape
  omega

end Go.Proofs.YtgebjjpcgakjgaaGreat

namespace Go.Proofs.YtgebjjpcgakjgaaGreat
set_option linter.all false
open Go.RowKit

/-- a permutation: from 1 to 7 numbers, each from 0 on and below their count, none twice -/
def permOk (w : List Int) : Bool := decide (1 ≤ w.length ∧ w.length ≤ 7 ∧ (∀ x ∈ w, 0 ≤ x ∧ x < (w.length : Int)) ∧ w.Nodup)
/-- the numbers of the first k places are in range and none is there twice -/
def permUpto (w : List Int) (k : Nat) : Prop := (∀ x ∈ w.take k, 0 ≤ x ∧ x < (w.length : Int)) ∧ (w.take k).Nodup

theorem take_snoc (xs : List Int) (k : Nat) (h : k < xs.length) : xs.take (k + 1) = xs.take k ++ [xs.getD k 0] := by
  rw [List.take_succ_eq_append_getElem h]; simp [List.getD_eq_getElem?_getD, h]
theorem permUpto_zero (w : List Int) : permUpto w 0 := by simp [permUpto]
theorem permUpto_succ {w : List Int} {k : Nat} (hk : k < w.length) (h : permUpto w k) (h0 : 0 ≤ w.getD k 0) (h1 : w.getD k 0 < (w.length : Int)) (h2 : w.getD k 0 ∉ w.take k) : permUpto w (k + 1) := by
  unfold permUpto
  rw [take_snoc w k hk]
  refine ⟨fun x hx => ?_, ?_⟩
  · rcases List.mem_append.1 hx with hx | hx
    · exact h.1 x hx
    · obtain rfl := List.mem_singleton.1 hx
      exact ⟨h0, h1⟩
  · rw [List.nodup_append]
    refine ⟨h.2, by simp, fun a ha b hb => ?_⟩
    obtain rfl := List.mem_singleton.1 hb
    exact fun e => h2 (e ▸ ha)
theorem permOk_of_upto {w : List Int} (h1 : 1 ≤ w.length) (h7 : w.length ≤ 7) (h : permUpto w w.length) : permOk w = true := by
  unfold permUpto at h
  rw [List.take_length] at h
  simp only [permOk, decide_eq_true_eq]
  exact ⟨h1, h7, h.1, h.2⟩
theorem getD_mem {w : List Int} {k : Nat} (hk : k < w.length) : w.getD k 0 ∈ w := by
  simp [List.getD_eq_getElem?_getD, hk]
theorem not_permOk_len {w : List Int} (h : ¬ (1 ≤ w.length ∧ w.length ≤ 7)) : permOk w = false := by
  simp only [permOk, decide_eq_false_iff_not]
  exact fun e => h ⟨e.1, e.2.1⟩
theorem not_permOk_range {w : List Int} {k : Nat} (hk : k < w.length) (h : ¬ (0 ≤ w.getD k 0 ∧ w.getD k 0 < (w.length : Int))) : permOk w = false := by
  simp only [permOk, decide_eq_false_iff_not]
  exact fun e => h (e.2.2.1 _ (getD_mem hk))
theorem not_permOk_twice {w : List Int} {k : Nat} (hk : k < w.length) (h : w.getD k 0 ∈ w.take k) : permOk w = false := by
  simp only [permOk, decide_eq_false_iff_not]
  intro e
  have hn := e.2.2.2
  rw [← List.take_append_drop k w, List.nodup_append] at hn
  refine hn.2.2 _ h _ ?_ rfl
  rw [List.mem_iff_getElem?]
  exact ⟨0, by simp [List.getD_eq_getElem?_getD, hk]⟩

theorem Rd.take {w : World} {p : Option Addr} {n cap : Nat} {f : Nat → Value} (h : Rd w (.slice p n cap) n f) (k : Nat) (hk : k ≤ n) : Rd w (.slice p k cap) k f := by
  obtain ⟨p', cap', e, hm, h⟩ := h
  injection e with e1 e2 e3
  subst e1 e3
  exact ⟨p, cap, rfl, by omega, fun h0 => by obtain ⟨b, off, hp, hc⟩ := h (by omega); exact ⟨b, off, hp, fun j hj => hc j (by omega)⟩⟩
theorem Ints.take {w : World} {p : Option Addr} {cap : Nat} {xs : List Int} (h : Ints w (.slice p xs.length cap) xs) (k : Nat) (hk : k ≤ xs.length) : Ints w (.slice p k cap) (xs.take k) := by
  have hl : (xs.take k).length = k := by rw [List.length_take]; omega
  unfold Ints
  rw [hl]
  exact (Rd.take h k hk).congr fun j hj => by simp [iv, List.getD_eq_getElem?_getD, List.getElem?_take, hj]

set_option maxHeartbeats 400000 in
theorem l1Has_any (v : Value) (xs : List Int) (x : Int) (w : World) (h : Ints w v xs) :
    Calls Tryz.prog 31 #[v, .int .i64 x] w fun e w' => e = .returned (.bool (decide (x ∈ xs))) ∧ Qt w w' := by
  obtain ⟨p, cap, rfl, ⟨hx1, hx⟩, hxc⟩ := h
  unfold maxLen at hx
  go_enter Tryz.func31, Tryz.ntmps31
  go_wp2
  go_loopg [5] xs.length (fun g i wr => ∃ k : Nat, k ≤ xs.length ∧ g = xs.length - k ∧ i = .int .i64 k ∧ wr = w ∧ Hid (x ∉ xs.take k))
  case atStart => exact ⟨0, Nat.zero_le _, rfl, rfl, rfl, by simp [Hid]⟩
  case round =>
    obtain ⟨k, hk, rfl, rfl, rfl, hp⟩ := hrel
    by_cases hlt : k < xs.length
    · obtain ⟨b, off, rfl, hc⟩ := hxc (by omega)
      have c1 := hc k hlt
      unfold iv at c1
      clear hxc hc
      go_wp2
      · have ht : (xs[k] == x) = true := by assumption
        go_ret
        refine ⟨ret_bool ?_, Qt.refl _⟩
        symm
        simp only [decide_eq_true_eq]
        rw [beq_iff_eq] at ht
        subst ht
        exact List.getElem_mem hlt
      · have ht : (xs[k] == x) = false := by assumption
        go_roundg (xs.length - (k + 1))
        case measure => omega
        case rel =>
          refine ⟨k + 1, by omega, rfl, by go_num, rfl, ?_⟩
          unfold Hid
          rw [take_snoc xs k hlt, List.mem_append]
          rintro (e | e)
          · exact hp.out e
          · rw [beq_eq_false_iff_ne] at ht
            simp [List.getD_eq_getElem?_getD, hlt] at e
            exact ht e.symm
    · go_wp2
      go_ret
      obtain rfl : k = xs.length := by omega
      refine ⟨ret_bool ?_, Qt.refl _⟩
      symm
      simp only [decide_eq_false_iff_not]
      have := hp.out
      rwa [List.take_length] at this

theorem mem_take_succ {xs : List Int} {k : Nat} (h : k < xs.length) (x : Int) : x ∈ xs.take (k + 1) ↔ x ∈ xs.take k ∨ x = xs.getD k 0 := by
  rw [take_snoc xs k h, List.mem_append, List.mem_singleton]

set_option maxHeartbeats 1000000 in
theorem implIsPerm_any (v : Value) (xs : List Int) (w : World) (h : Ints w v xs) :
    Calls Tryz.prog 18 #[v] w fun e w' => e = .returned (.bool (permOk xs)) ∧ Below w.heap.size w w' := by
  obtain ⟨p, cap, rfl, ⟨hx1, hx⟩, hxc⟩ := h
  unfold maxLen at hx
  by_cases hl : 1 ≤ xs.length ∧ xs.length ≤ 7
  · obtain ⟨hl1, hl7⟩ := hl
    have e1 : decide ((xs.length : Int) < 1) = false := by simp; omega
    have e2 : decide (7 < (xs.length : Int)) = false := by simp; omega
    go_enter Tryz.func18, Tryz.ntmps18
    go_wp2
    clear e1 e2
    go_loopg [17] xs.length (fun g i wr => ∃ k : Nat, k ≤ xs.length ∧ g = xs.length - k ∧ i = .int .i64 k ∧ Below w.heap.size w wr ∧ wr.rowIs w.heap.size 59 7 (fun j => .bool (decide ((j : Int) ∈ xs.take k))) ∧ Hid (permUpto xs k))
    case atStart =>
      refine ⟨0, Nat.zero_le _, rfl, rfl, (Below.refl _ _).alloc (Nat.le_refl _) _, World.rowIs_alloc w _ _ _ fun i hi => ?_, permUpto_zero xs⟩
      simp at hi
      match i, hi with
      | 0, _ | 1, _ | 2, _ | 3, _ | 4, _ | 5, _ | 6, _ => simp
    case round =>
      obtain ⟨k, hk, rfl, rfl, hb, hr, hp⟩ := hrel
      by_cases hlt : k < xs.length
      · obtain ⟨b, off, rfl, hc⟩ := hxc (by omega)
        have c1 : wr.cell? ⟨b, off + k, none⟩ = some (.int .i64 (xs.getD k 0)) := by
          rw [hb.cell (p := ⟨b, off + k, none⟩) (World.block_lt_of_cell? _ _ (hc k hlt))]; exact hc k hlt
        clear hxc hc
        by_cases hin : 0 ≤ xs.getD k 0 ∧ xs.getD k 0 < (xs.length : Int)
        · obtain ⟨m, hm⟩ := Int.eq_ofNat_of_zero_le hin.1
          have Hin := Lib.hid hin
          have hml : m < xs.length := by omega
          have Hm := Lib.hid hm
          rw [hm] at c1
          have c2 := hr.cell (i := m) (by omega)
          have c3 := hr.frozen m
          have hs := hr.lt
          clear hin hm
          by_cases hmet : (m : Int) ∈ xs.take k
          · have ht : decide ((m : Int) ∈ xs.take k) = true := decide_eq_true hmet
            rw [ht] at c2
            have Hmet := Lib.hid hmet
            clear ht hmet
            go_wp2
            go_ret
            exact ⟨ret_bool (not_permOk_twice hlt (by rw [Hm.out]; exact Hmet.out)).symm, hb⟩
          · have ht : decide ((m : Int) ∈ xs.take k) = false := decide_eq_false hmet
            rw [ht] at c2
            have Hmet := Lib.hid hmet
            clear ht hmet
            go_wp2
            go_roundg (xs.length - (k + 1))
            case measure => omega
            case rel =>
              refine ⟨k + 1, by omega, rfl, by go_num, hb.setCell (Nat.le_refl _) _, (hr.set m _).congr fun j hj => ?_, permUpto_succ hlt hp.out Hin.out.1 Hin.out.2 (by rw [Hm.out]; exact Hmet.out)⟩
              by_cases e : j = m
              · subst e
                simp only [if_true]
                congr 1
                symm
                rw [decide_eq_true_eq, mem_take_succ hlt]
                exact .inr Hm.out.symm
              · have e' : (j : Int) ≠ xs.getD k 0 := by rw [Hm.out]; omega
                simp only [e, if_false]
                congr 1
                rw [decide_eq_decide, mem_take_succ hlt]
                exact ⟨.inl, fun h => h.resolve_right e'⟩
        · have Hin := Lib.hid hin
          rw [getD_lt hlt] at hin
          by_cases hneg : xs[k] < 0
          · clear hin
            go_wp2
            all_goals
              go_ret
              exact ⟨ret_bool (not_permOk_range hlt Hin.out).symm, hb⟩
          · have hge : (xs.length : Int) ≤ xs[k] := by omega
            clear hin
            go_wp2
            all_goals
              go_ret
              exact ⟨ret_bool (not_permOk_range hlt Hin.out).symm, hb⟩
      · go_wp2
        go_ret
        obtain rfl : k = xs.length := by omega
        exact ⟨ret_bool (permOk_of_upto hl1 hl7 hp.out).symm, hb⟩
  · go_enter Tryz.func18, Tryz.ntmps18
    by_cases h1 : (xs.length : Int) < 1
    · go_wp2
      all_goals
        go_ret
        exact ⟨ret_bool (not_permOk_len hl).symm, Below.refl _ _⟩
    · have h7 : (7 : Int) < xs.length := by omega
      go_wp2
      all_goals
        go_ret
        exact ⟨ret_bool (not_permOk_len hl).symm, Below.refl _ _⟩

end Go.Proofs.YtgebjjpcgakjgaaGreat

namespace Go.Proofs.YtgebjjpcgakjgaaGreat
set_option linter.all false

theorem flat_length {α : Type} {n : Nat} : ∀ {rows : List (List α)}, (∀ r ∈ rows, r.length = n) → rows.flatten.length = rows.length * n
  | [], _ => by simp
  | r :: rs, h => by
    have h1 := h r (by simp)
    have h2 := flat_length (rows := rs) (fun x hx => h x (by simp [hx]))
    simp only [List.flatten_cons, List.length_append, List.length_cons, h1, h2, Nat.add_mul]
    omega

theorem flat_getElem? {α : Type} {n : Nat} (hn : 0 < n) : ∀ {rows : List (List α)}, (∀ r ∈ rows, r.length = n) → ∀ t, rows.flatten[t]? = (rows[t / n]?).bind fun r => r[t % n]?
  | [], _, t => by simp
  | r :: rs, h, t => by
    have h1 := h r (by simp)
    have ih := flat_getElem? hn (rows := rs) (fun x hx => h x (by simp [hx]))
    simp only [List.flatten_cons]
    by_cases ht : t < n
    · rw [List.getElem?_append_left (by omega), Nat.div_eq_of_lt ht, Nat.mod_eq_of_lt ht]
      simp
    · rw [List.getElem?_append_right (by omega), ih, h1]
      have e1 : t / n = (t - n) / n + 1 := by
        rw [Nat.div_eq, if_pos (by omega)]
      have e2 : t % n = (t - n) % n := Nat.mod_eq_sub_mod (by omega)
      rw [e1, e2]
      simp

theorem flat_getD {n : Nat} (hn : 0 < n) {rows : List (List Int)} (h : ∀ r ∈ rows, r.length = n) (t : Nat) : rows.flatten.getD t 0 = (rows.getD (t / n) []).getD (t % n) 0 := by
  simp only [List.getD_eq_getElem?_getD, flat_getElem? hn h t]
  cases rows[t / n]? <;> simp

/-- row i of a matrix that is given row by row -/
def rowAt (C : Nat) (D : List Int) (i : Nat) : List Int := (D.drop (i * C)).take C
def rowsOf (R C : Nat) (D : List Int) : List (List Int) := (List.range R).map (rowAt C D)

theorem rowAt_length {C : Nat} {D : List Int} {i : Nat} (h : (i + 1) * C ≤ D.length) : (rowAt C D i).length = C := by
  simp only [rowAt, List.length_take, List.length_drop]
  rw [Nat.add_mul] at h
  omega
theorem rowAt_getD {C : Nat} {D : List Int} {i j : Nat} (hj : j < C) : (rowAt C D i).getD j 0 = D.getD (i * C + j) 0 := by
  simp only [rowAt, List.getD_eq_getElem?_getD, List.getElem?_take, if_pos hj, List.getElem?_drop]
theorem rowsOf_length (R C : Nat) (D : List Int) : (rowsOf R C D).length = R := by simp [rowsOf]
theorem rowsOf_getD {R C : Nat} {D : List Int} {i : Nat} (hi : i < R) : (rowsOf R C D).getD i [] = rowAt C D i := by
  simp [rowsOf, List.getD_eq_getElem?_getD, hi]
theorem mul_le_of {i R C : Nat} (h : i < R) : (i + 1) * C ≤ R * C := Nat.mul_le_mul_right _ h
theorem rowsOf_each {R C : Nat} {D : List Int} (h : D.length = R * C) : ∀ r ∈ rowsOf R C D, r.length = C := by
  intro r hr
  simp only [rowsOf, List.mem_map, List.mem_range] at hr
  obtain ⟨i, hi, rfl⟩ := hr
  exact rowAt_length (by rw [h]; exact mul_le_of hi)
theorem rowsOf_flat {R C : Nat} {D : List Int} (h : D.length = R * C) : (rowsOf R C D).flatten = D := by
  rcases Nat.eq_zero_or_pos C with rfl | hC
  · have h0 : D = [] := List.eq_nil_of_length_eq_zero (by omega)
    subst h0
    apply List.eq_nil_of_length_eq_zero
    rw [flat_length (n := 0) (rowsOf_each h)]; omega
  · have hl := flat_length (rowsOf_each h)
    rw [rowsOf_length] at hl
    apply List.ext_getElem?
    intro t
    rw [flat_getElem? hC (rowsOf_each h)]
    by_cases ht : t < R * C
    · have hd : t / C < R := Nat.div_lt_of_lt_mul (by rwa [Nat.mul_comm])
      have hm : t % C < C := Nat.mod_lt _ hC
      rw [show (rowsOf R C D)[t / C]? = some (rowAt C D (t / C)) by simp [rowsOf, hd]]
      simp only [Option.bind_some, rowAt, List.getElem?_take, if_pos hm, List.getElem?_drop]
      congr 1
      rw [Nat.mul_comm]
      exact Nat.div_add_mod t C
    · have hd : ¬ t / C < R := fun hd => ht (by
        have := Nat.div_add_mod t C
        have hm : t % C < C := Nat.mod_lt _ hC
        have h2 := Nat.mul_le_mul_right C hd
        rw [Nat.succ_mul] at h2
        have h3 : C * (t / C) = t / C * C := Nat.mul_comm _ _
        omega)
      rw [show (rowsOf R C D)[t / C]? = none by simp [rowsOf]; omega]
      simp
      omega
theorem rowsOf_of_flat {C : Nat} {rows : List (List Int)} (h : ∀ r ∈ rows, r.length = C) : rowsOf rows.length C rows.flatten = rows := by
  apply List.ext_getElem (by rw [rowsOf_length])
  intro i h1 h2
  rw [rowsOf_length] at h1
  have hr : (rowsOf rows.length C rows.flatten)[i] = rowAt C rows.flatten i := by simp [rowsOf]
  rw [hr]
  have hl : rows[i].length = C := h _ (List.getElem_mem h2)
  have hfl := flat_length h
  apply List.ext_getElem (by rw [rowAt_length (by rw [hfl]; exact mul_le_of h1), hl])
  intro j h3 h4
  rw [hl] at h4
  have hC : 0 < C := by omega
  have e1 : (rowAt C rows.flatten i)[j]? = rows[i][j]? := by
    simp only [rowAt, List.getElem?_take, if_pos h4, List.getElem?_drop]
    rw [flat_getElem? hC h, show (i * C + j) / C = i by rw [Nat.mul_comm, Nat.mul_add_div hC, Nat.div_eq_of_lt h4]; rfl,
      show (i * C + j) % C = j by rw [Nat.mul_comm, Nat.mul_add_mod, Nat.mod_eq_of_lt h4], List.getElem?_eq_getElem h2]
    rfl
  rw [List.getElem?_eq_getElem h3, List.getElem?_eq_getElem (by omega)] at e1
  exact Option.some.inj e1

/-- row i of a matrix with 1 where a permutation says -/
def unitRow (n : Nat) (x : Int) : List Int := (List.range n).map fun (j : Nat) => if (j : Int) = x then 1 else 0
def permRows (w : List Int) : List (List Int) := w.map (unitRow w.length)

theorem unitRow_length (n : Nat) (x : Int) : (unitRow n x).length = n := by simp [unitRow]
theorem unitRow_getD {n : Nat} {x : Int} {j : Nat} (h : j < n) : (unitRow n x).getD j 0 = if (j : Int) = x then 1 else 0 := by
  simp [unitRow, List.getD_eq_getElem?_getD, h]
theorem permRows_each (w : List Int) : ∀ r ∈ permRows w, r.length = w.length := by
  intro r hr
  simp only [permRows, List.mem_map] at hr
  obtain ⟨x, _, rfl⟩ := hr
  exact unitRow_length _ _
theorem permRows_length (w : List Int) : (permRows w).length = w.length := by simp [permRows]
theorem permRows_flat_length (w : List Int) : (permRows w).flatten.length = w.length * w.length := by
  rw [flat_length (permRows_each w), permRows_length]
theorem permRows_flat_getD {w : List Int} {t : Nat} (h : t < w.length * w.length) : (permRows w).flatten.getD t 0 = if ((t % w.length : Nat) : Int) = w.getD (t / w.length) 0 then 1 else 0 := by
  have hn : 0 < w.length := by
    rcases Nat.eq_zero_or_pos w.length with h0 | h0
    · rw [h0] at h; omega
    · exact h0
  have hd : t / w.length < w.length := Nat.div_lt_of_lt_mul h
  rw [flat_getD hn (permRows_each w)]
  have : (permRows w).getD (t / w.length) [] = unitRow w.length (w.getD (t / w.length) 0) := by
    simp [permRows, List.getD_eq_getElem?_getD, hd]
  rw [this, unitRow_getD (Nat.mod_lt _ hn)]

theorem div_at {n k m : Nat} (h : m < n) : (k * n + m) / n = k ∧ (k * n + m) % n = m := by
  have hn : 0 < n := by omega
  refine ⟨?_, ?_⟩
  · rw [Nat.mul_comm, Nat.mul_add_div hn, Nat.div_eq_of_lt h]; rfl
  · rw [Nat.mul_comm, Nat.mul_add_mod, Nat.mod_eq_of_lt h]
/-- the permutation's matrix: one row more has its 1 -/
theorem pm_step {xs : List Int} {k m t : Nat} (hm : xs.getD k 0 = (m : Int)) (hml : m < xs.length) :
    (if t = k * xs.length + m then (1 : Int) else if t / xs.length < k ∧ ((t % xs.length : Nat) : Int) = xs.getD (t / xs.length) 0 then 1 else 0) =
      if t / xs.length < k + 1 ∧ ((t % xs.length : Nat) : Int) = xs.getD (t / xs.length) 0 then 1 else 0 := by
  obtain ⟨e1, e2⟩ := div_at (k := k) hml
  by_cases e : t = k * xs.length + m
  · subst e
    rw [if_pos rfl, if_pos]
    rw [e1, e2, hm]
    exact ⟨by omega, rfl⟩
  · rw [if_neg e]
    by_cases h1 : t / xs.length < k
    · have h2 : t / xs.length < k + 1 := by omega
      simp only [h1, h2, true_and]
    · by_cases h3 : t / xs.length = k
      · rw [if_neg (fun h => h1 h.1), if_neg]
        rintro ⟨_, h4⟩
        rw [h3, hm] at h4
        have h5 : t % xs.length = m := by omega
        apply e
        have := Nat.div_add_mod t xs.length
        rw [h3, h5, Nat.mul_comm] at this
        exact this.symm
      · rw [if_neg (fun h => h1 h.1), if_neg (fun h => by omega)]

theorem take_flat_succ {rows : List (List Int)} {k : Nat} (h : k < rows.length) : (rows.take (k + 1)).flatten = (rows.take k).flatten ++ rows.getD k [] := by
  rw [List.take_succ_eq_append_getElem h, List.flatten_append]; simp [List.getD_eq_getElem?_getD, h]
theorem take_flat_le (rows : List (List Int)) (k : Nat) : (rows.take k).flatten.length ≤ rows.flatten.length := by
  have : rows.flatten = (rows.take k).flatten ++ (rows.drop k).flatten := by rw [← List.flatten_append, List.take_append_drop]
  rw [this, List.length_append]; omega
theorem take_flat_len {rows : List (List Int)} {k : Nat} (h : k < rows.length) : (rows.take k).flatten.length + (rows.getD k []).length = (rows.take (k + 1)).flatten.length := by
  rw [take_flat_succ h, List.length_append]

theorem permRows_take_succ {xs : List Int} {k : Nat} (h : k < xs.length) : (permRows xs).take (k + 1) = (permRows xs).take k ++ [unitRow xs.length (xs.getD k 0)] := by
  rw [List.take_succ_eq_append_getElem (by rw [permRows_length]; exact h)]
  simp [permRows, List.getD_eq_getElem?_getD, h]

end Go.Proofs.YtgebjjpcgakjgaaGreat

namespace Go.Proofs.YtgebjjpcgakjgaaGreat
set_option linter.all false
open Go.RowKit

theorem info_sl : (Tryz.prog.info? 24).map (fun i => (i.zero, i.size, i.bytes)) = some (some (.slice none 0 0), 1, 24) := by kernel_rfl

theorem run_append_make_nil {P : Program} (w : World) (t ti ty e : TypeId) (z : Value) (bytes : Nat) (ht : P.underlying t = some (.slice e)) (hti : P.underlying ti = some (.int .i64))
    (hinfo : (P.info? e).map (fun i => (i.zero, i.size, i.bytes)) = some (some z, 1, bytes)) (hzs : z.cells.size = 1) (n : Nat) (h0 : 0 < n) (hn : n ≤ 1000000) (hb : bytes ≤ 1000) (hb0 : 0 < bytes) :
    ∃ cap w', (Builtin.append_ #[t, ti] ty #[.slice none 0 0, .int .i64 (n : Int)]).run P w = .ok (.slice (some ⟨w.heap.size, 0, none⟩) n cap) w' ∧ n ≤ cap ∧ cap ≤ maxLen ∧
      (∃ F, w'.rowIs w.heap.size e cap F) ∧ Below w.heap.size w w' ∧ w'.heap.size = w.heap.size + 1 := by
  obtain ⟨i, hi, hz, hsz, hby⟩ := info_parts hinfo
  have hge := grownCap_ge w n 0 e
  have hle := grownCap_le_maxLen w n 0 e (by unfold maxLen; omega)
  have hwr : IntKind.i64.wrap (n : Int) = (n : Int) := k64 (by omega) (by omega)
  have hnb : n * bytes ≤ 1000000 * 1000 := Nat.mul_le_mul hn hb
  have h1 : ¬ ((n : Int) < 0) := by omega
  have h3 : ¬ (281474976710656 < Builtin.nextslicecap n 0 * i.bytes) := by rw [nextslicecap_zero h0, hby]; omega
  have h4 : ¬ (281474976710656 < (n : Int) * (i.bytes : Int)) := by
    rw [hby]
    have : ((n * bytes : Nat) : Int) = (n : Int) * (bytes : Int) := Int.natCast_mul _ _
    omega
  have h5 : ¬ (9223372036854775807 < (n : Int)) := by omega
  have h6 : n ≠ 0 := by omega
  refine ⟨grownCap w n 0 e, w.drew.alloc (.cells (Builtin.zeroCells z.cells n ++ Builtin.zeroCells z.cells (grownCap w n 0 e - n)) e), ?_, hge, hle, ⟨fun j => (Builtin.zeroCells z.cells n ++ Builtin.zeroCells z.cells (grownCap w n 0 e - n)).getD j undef, ?_⟩, ?_, by simp⟩
  · simp [Builtin.append_, run_underlying ht, run_underlying hti, sizeOf, typeInfo, zeroValue, hi, hz, hsz, Builtin.firstCells, asInt, asIntOf, hwr, h1, h3, h4, h5, h6, Question.forced, newRow, grownCap, loadCells, loadCellsFrom]
  · have hs : (Builtin.zeroCells z.cells n ++ Builtin.zeroCells z.cells (grownCap w n 0 e - n)).size = grownCap w n 0 e := by
      rw [Array.size_append, size_zeroCells, size_zeroCells, hzs]; omega
    exact ⟨_, heap_alloc_new w.drew _, hs, fun j hj => by simp only [Array.getD_eq_getD_getElem?]; rw [Array.getElem?_eq_getElem (by omega)]; rfl⟩
  · exact ((Below.refl _ _).drew).alloc (by simp) _

theorem wpList_append_make_nil {P : Program} {w : World} {ops : Array Oper} {rest : List Oper} {o : Oper} {a : Act} {Q : Exit → Act → World → Prop} (hgd : o.guard = none) (s x : Operand) (t ti : TypeId)
    (ho : o.op = .call { callee := .builtin .append, args := #[s, x], argTypes := #[t, ti] })
    (e : TypeId) (z : Value) (bytes : Nat) (ht : P.underlying t = some (.slice e)) (hti : P.underlying ti = some (.int .i64))
    (hinfo : (P.info? e).map (fun i => (i.zero, i.size, i.bytes)) = some (some z, 1, bytes)) (hzs : z.cells.size = 1) (n : Nat) (h0 : 0 < n) (hn : n ≤ 1000000) (hb : bytes ≤ 1000) (hb0 : 0 < bytes)
    (hs : a.eval s = .slice none 0 0) (hx : a.eval x = .int .i64 (n : Int))
    (h : ∀ cap w' F, n ≤ cap → cap ≤ maxLen → w'.rowIs w.heap.size e cap F → Below w.heap.size w w' → wpList P ops Q rest (a.put o.dst (.slice (some ⟨w.heap.size, 0, none⟩) n cap)) w') :
    wpList P ops Q (o :: rest) a w := by
  refine wpList_plain hgd fun K hK' => ?_
  obtain ⟨cap, w', hr, h1, h2, ⟨F, hF⟩, hbw, _⟩ := run_append_make_nil (P := P) w t ti o.type e z bytes ht hti hinfo hzs n h0 hn hb hb0
  unfold Oper.wp
  simp [execOp, ho, resolve, invoke, builtin, hs, hx, hr, Result.andThen]
  exact hK' _ _ (h cap w' F h1 h2 hF hbw)

theorem iv_append {xs ys : List Int} {n : Nat} (hn : n = xs.length) (j : Nat) : (if j < n then iv xs j else iv ys (j - n)) = iv (xs ++ ys) j := by
  subst hn
  unfold iv
  by_cases h : j < xs.length
  · rw [if_pos h]; simp [List.getD_eq_getElem?_getD, List.getElem?_append_left h]
  · rw [if_neg h]; simp [List.getD_eq_getElem?_getD, List.getElem?_append_right (Nat.le_of_not_lt h)]
theorem iv_one (xs : List Int) (j : Nat) : (iv xs j).oneCell' = true := rfl

end Go.Proofs.YtgebjjpcgakjgaaGreat

namespace Go.Proofs.YtgebjjpcgakjgaaGreat
set_option linter.all false
open Go.RowKit

def primeOk (p : Int) : Bool := decide (p = 2 ∨ p = 3 ∨ p = 5 ∨ p = 7)

def permMx (p : Int) (xs : List Int) : Mx := if primeOk p && permOk xs then ⟨p, xs.length, xs.length, (permRows xs).flatten⟩ else mxZero

theorem implIsPerm_b (v : Value) (xs : List Int) (b : Bool) (hb : permOk xs = b) (w : World) (h : Ints w v xs) :
    Calls Tryz.prog 18 #[v] w fun e w' => e = .returned (.bool b) ∧ Below w.heap.size w w' := hb ▸ implIsPerm_any v xs w h

/-- the block of the result, still zero -/
theorem zero_blk {w w1 : World} {T : TypeId} {x0 x1 x2 x3 : Value} (hb : Below (w.alloc (.cells #[x0, x1, x2, x3] T)).heap.size (w.alloc (.cells #[x0, x1, x2, x3] T)) w1) :
    w1.heap[w.heap.size]? = some (.cells #[x0, x1, x2, x3] T (0, 0)) ∧ Below w.heap.size w w1 := by
  refine ⟨?_, (below_alloc w _).trans (hb.mono (by simp))⟩
  rw [hb.block _ (by simp)]; exact heap_alloc_top _ _

theorem permMx_no {p : Int} {xs : List Int} (h : primeOk p = false ∨ permOk xs = false) : permMx p xs = mxZero := by
  unfold permMx
  rcases h with h | h <;> simp [h]
theorem permMx_yes {p : Int} {xs : List Int} (h1 : primeOk p = true) (h2 : permOk xs = true) : permMx p xs = ⟨p, xs.length, xs.length, (permRows xs).flatten⟩ := by simp [permMx, h1, h2]

theorem permMx_len (p : Int) (xs : List Int) : (permMx p xs).D.length ≤ 1000000 := by
  unfold permMx
  split
  · rename_i h
    simp only [Bool.and_eq_true] at h
    obtain ⟨_, h7, _⟩ := of_decide_eq_true h.2
    show (permRows xs).flatten.length ≤ _
    rw [permRows_flat_length]
    have := Nat.mul_le_mul h7 h7
    omega
  · simp [mxZero]

end Go.Proofs.YtgebjjpcgakjgaaGreat

namespace Go.Proofs.YtgebjjpcgakjgaaGreat
set_option linter.all false
open Go.RowKit

/-- a matrix: one of the four primes, from 0 to 7 rows of from 1 to 7 numbers, each from 0 on and below the prime -/
def mxOk (P R C : Int) (D : List Int) : Bool :=
  decide (primeOk P = true ∧ (0 ≤ R ∧ R ≤ 7) ∧ (1 ≤ C ∧ C ≤ 7) ∧ (D.length : Int) = R * C ∧ ∀ x ∈ D, 0 ≤ x ∧ x < P)

theorem mxOk_no1 {P R C : Int} {D : List Int} (h : primeOk P = false) : mxOk P R C D = false := by
  simp only [mxOk, decide_eq_false_iff_not]; rintro ⟨h1, _⟩; rw [h] at h1; cases h1
theorem mxOk_no2 {P R C : Int} {D : List Int} (h : ¬ (0 ≤ R ∧ R ≤ 7)) : mxOk P R C D = false := by
  simp only [mxOk, decide_eq_false_iff_not]; exact fun e => h e.2.1
theorem mxOk_no3 {P R C : Int} {D : List Int} (h : ¬ (1 ≤ C ∧ C ≤ 7)) : mxOk P R C D = false := by
  simp only [mxOk, decide_eq_false_iff_not]; exact fun e => h e.2.2.1
theorem mxOk_no4 {P R C : Int} {D : List Int} (h : ¬ (D.length : Int) = R * C) : mxOk P R C D = false := by
  simp only [mxOk, decide_eq_false_iff_not]; exact fun e => h e.2.2.2.1
theorem mxOk_no5 {P R C : Int} {D : List Int} {k : Nat} (hk : k < D.length) (h : ¬ (0 ≤ D.getD k 0 ∧ D.getD k 0 < P)) : mxOk P R C D = false := by
  simp only [mxOk, decide_eq_false_iff_not]; exact fun e => h (e.2.2.2.2 _ (getD_mem hk))
theorem mxOk_yes {P R C : Int} {D : List Int} (h1 : primeOk P = true) (h2 : 0 ≤ R ∧ R ≤ 7) (h3 : 1 ≤ C ∧ C ≤ 7) (h4 : (D.length : Int) = R * C) (h5 : ∀ j, j < D.length → 0 ≤ D.getD j 0 ∧ D.getD j 0 < P) : mxOk P R C D = true := by
  simp only [mxOk, decide_eq_true_eq]
  refine ⟨h1, h2, h3, h4, fun x hx => ?_⟩
  obtain ⟨j, hj, rfl⟩ := List.mem_iff_getElem.1 hx
  have := h5 j hj
  rwa [getD_lt hj] at this
theorem primeOk_range {P : Int} (h : primeOk P = true) : 2 ≤ P ∧ P ≤ 7 := by
  have := of_decide_eq_true h
  omega

end Go.Proofs.YtgebjjpcgakjgaaGreat

namespace Go.Proofs.YtgebjjpcgakjgaaGreat
set_option linter.all false
open Go.RowKit

/-- a call returned this list, in new memory, and changed nothing that was there -/
def RetI (w : World) (xs : List Int) (e : Ending) (w' : World) : Prop :=
  ∃ u, e = .returned u ∧ OwnI 3 w' w.heap.size w'.heap.size u xs ∧ Below w.heap.size w w'
/-- .. this list of lists -/
def RetII (w : World) (rows : List (List Int)) (e : Ending) (w' : World) : Prop :=
  ∃ u, e = .returned u ∧ OwnII 24 3 w' w.heap.size w'.heap.size u rows ∧ Below w.heap.size w w'

set_option maxRecDepth 100000 in
set_option maxHeartbeats 400000 in
theorem clone_any (v : Value) (xs : List Int) (w : World) (h : Ints w v xs) (hl : xs.length ≤ 1000000) :
    Calls Tryz.prog 26 #[v] w (RetI w xs) := by
  have hI := Lib.hid h
  obtain ⟨p, cap, rfl, ⟨hx1, hx2⟩, hxc⟩ := h
  have keq := fun (n c : Nat) => Lib.run_eql_slice_nil (P := Tryz.prog) w 24 3 p n c 0 0 Tryz.underlying24
  cases p with
  | none =>
    have hx0 : xs.length = 0 := by
      rcases Nat.eq_zero_or_pos xs.length with h0 | h0
      · exact h0
      · obtain ⟨b, off, e, _⟩ := hxc h0; cases e
    obtain rfl := List.eq_nil_of_length_eq_zero hx0
    clear hxc hI
    go_enter Tryz.func26, Tryz.ntmps26
    go_wp2_with fail
    go_ret
    exact ⟨_, rfl, ⟨World.ownsRow_nil _ _ _ _, fun k hk => by simp [Value.ownBlock] at hk⟩, Below.refl _ _⟩
  | some a =>
    have Hb1 := Lib.hid (show 0 + xs.length ≤ maxLen by unfold maxLen; omega)
    have Hb2 := Lib.hid (show (0 + xs.length) * 8 ≤ 140737488355328 by omega)
    clear hxc
    go_enter Tryz.func26, Tryz.ntmps26
    go_wp2_with (at_builtin; go_must (refine wpList_append_F rfl (.tmp 5) (.tmp 6) 24 rfl 3 (.int .i64 0) 8 Tryz.underlying24 info_int rfl w.heap.size (w.heap.size + 1) _ 0 (fun _ => undef) rfl (OwnF.made0 w _ _) (by simp) (by simp) _ _ _ rfl (hI.out.below (below_alloc w _)) (fun j _ => iv_one _ j) Hb1.out Hb2.out ?_; intro v' w' ho' hg'))
    go_ret
    refine ⟨_, rfl, OwnF.ints ?_, (below_alloc w _).trans (grownBy_below hg' (OwnF.made0 w 3 (fun _ => undef)).blocks (Nat.le_refl _) (by simp))⟩
    rw [Nat.zero_add] at ho'
    exact ho'.congr fun j _ => by simp

end Go.Proofs.YtgebjjpcgakjgaaGreat
