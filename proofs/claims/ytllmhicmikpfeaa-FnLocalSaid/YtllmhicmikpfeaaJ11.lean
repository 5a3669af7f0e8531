/-
  The reference's double Schubert polynomial: what its lists of terms add up to. Plain.
  l2Gather: terms in order, those that are alike added.
  l2Times: the product of two lists of terms.
-/
import Derived.Test.YtllmhicmikpfeaaJ10
import Derived.Test.YtllmhicmikpfeaaJ3
import Derived.Deep.QuietTactic
import Derived.StillTailTactics
import Derived.Deep.RegionHeld3
namespace Go.Proofs.Ytllmhicmikpfeaa
set_option linter.all false
set_option maxRecDepth 100000
open Go.RowKit Go.Maps Go.WideMaps

def addE (a b : List Int) : List Int := List.zipWith (· + ·) a b
def zeroE : List Int := [0, 0, 0, 0, 0, 0, 0]
def unitE (i : Nat) : List Int := rsE i zeroE
theorem addE_getD {a b : List Int} {j : Nat} (h1 : a.length = 7) (h2 : b.length = 7) (h : j < 7) : (addE a b).getD j 0 = a.getD j 0 + b.getD j 0 := by
  unfold addE
  simp [List.getD_eq_getElem?_getD, List.getElem?_zipWith, h1, h2, h]
theorem addE_len {a b : List Int} (h1 : a.length = 7) (h2 : b.length = 7) : (addE a b).length = 7 := by unfold addE; simp [h1, h2]
theorem keyN_add {a b : List Int} (h1 : a.length = 7) (h2 : b.length = 7) : keyN (addE a b) = keyN a + keyN b := by
  unfold keyN
  rw [addE_getD h1 h2 (by omega), addE_getD h1 h2 (by omega), addE_getD h1 h2 (by omega), addE_getD h1 h2 (by omega), addE_getD h1 h2 (by omega), addE_getD h1 h2 (by omega), addE_getD h1 h2 (by omega)]
  omega
theorem ext7 {a b : List Int} (h1 : a.length = 7) (h2 : b.length = 7) (h : ∀ j, j < 7 → a.getD j 0 = b.getD j 0) : a = b := by
  refine List.ext_getElem (by omega) fun j hj hj' => ?_
  have := h j (by omega)
  simpa [List.getD_eq_getElem?_getD, hj, hj'] using this
theorem zeroE_getD (j : Nat) : zeroE.getD j 0 = 0 := by
  unfold zeroE
  rcases Nat.lt_or_ge j 7 with h | h
  · have : j = 0 ∨ j = 1 ∨ j = 2 ∨ j = 3 ∨ j = 4 ∨ j = 5 ∨ j = 6 := by omega
    rcases this with rfl | rfl | rfl | rfl | rfl | rfl | rfl <;> rfl
  · rw [List.getD_eq_getElem?_getD, List.getElem?_eq_none (by simpa using h)]; rfl
theorem unitE_getD {i : Nat} (hi : i < 7) (j : Nat) : (unitE i).getD j 0 = if j = i then 1 else 0 := by
  unfold unitE
  rw [rsE_getD (by simpa [zeroE] using hi), zeroE_getD, zeroE_getD]
  rfl
theorem unitE_len (i : Nat) : (unitE i).length = 7 := by unfold unitE rsE zeroE; simp
theorem addE_unit {a : List Int} {i : Nat} (h1 : a.length = 7) (hi : i < 7) : addE a (unitE i) = rsE i a := by
  refine ext7 (addE_len h1 (unitE_len i)) (by unfold rsE; simpa using h1) fun j hj => ?_
  rw [addE_getD h1 (unitE_len i) hj, unitE_getD hi, rsE_getD (by rw [h1]; exact hi)]
  by_cases e : j = i
  · subst e; rw [if_pos rfl, if_pos rfl]
  · rw [if_neg e, if_neg e]; omega
theorem addE_zero {a : List Int} (h1 : a.length = 7) : addE a zeroE = a := by
  refine ext7 (addE_len h1 rfl) h1 fun j hj => ?_
  rw [addE_getD h1 rfl hj, zeroE_getD]; omega
def pw128 (i : Nat) : Int := 128 ^ i
theorem keyN_zero : keyN zeroE = 0 := by decide
theorem keyN_unit {i : Nat} (hi : i < 7) : keyN (unitE i) = pw128 i := by
  have : i = 0 ∨ i = 1 ∨ i = 2 ∨ i = 3 ∨ i = 4 ∨ i = 5 ∨ i = 6 := by omega
  rcases this with rfl | rfl | rfl | rfl | rfl | rfl | rfl <;> decide
theorem keyN_set {e : List Int} {i : Nat} (he : e.length = 7) (hi : i < 7) (v : Int) : keyN (e.set i v) = keyN e + (v - e.getD i 0) * pw128 i := by
  unfold keyN
  have h : ∀ j, (e.set i v).getD j 0 = if j = i then v else e.getD j 0 := fun j => set_getD v (by rw [he]; exact hi)
  rw [h 0, h 1, h 2, h 3, h 4, h 5, h 6]
  have : i = 0 ∨ i = 1 ∨ i = 2 ∨ i = 3 ∨ i = 4 ∨ i = 5 ∨ i = 6 := by omega
  rcases this with rfl | rfl | rfl | rfl | rfl | rfl | rfl <;> simp [pw128] <;> omega
theorem keyN_dvS {e : List Int} {i : Nat} (he : e.length = 7) (hi : i < 6) (s t : Int) : keyN (dvS i e s t) = keyN e - e.getD i 0 * pw128 i - e.getD (i + 1) 0 * pw128 (i + 1) + (s - 1 - t) * pw128 i + t * pw128 (i + 1) := by
  unfold dvS
  rw [keyN_set (by simpa using he) (by omega), keyN_set he (by omega), set_getD _ (by omega), if_neg (by omega), Int.sub_mul, Int.sub_mul]
  omega

/-! ### products -/
def mulT (t s : List Int × Int) : List Int × Int := (addE t.1 s.1, t.2 * s.2)
def mulP (f G : Pl) : Pl := f.flatMap fun t => G.map fun s => mulT t s
def facP (i : Nat) (y : Int) : Pl := [(unitE i, 1), (zeroE, -y)]
theorem Ev_map_mulT (t : List Int × Int) (g : List Int → Int) : ∀ G : Pl, Ev (G.map fun s => mulT t s) g = t.2 * Ev G (fun e => g (addE t.1 e))
  | [] => by simp [Ev]
  | s :: G => by
    rw [List.map_cons, Ev_cons, Ev_cons, Ev_map_mulT t g G, Int.mul_add]
    unfold mulT
    rw [Int.mul_assoc]
theorem Ev_mulP (g : List Int → Int) (G : Pl) : ∀ f : Pl, Ev (mulP f G) g = Ev f (fun e => Ev G (fun e' => g (addE e e')))
  | [] => rfl
  | t :: f => by
    have ih := Ev_mulP g G f
    unfold mulP at ih ⊢
    rw [List.flatMap_cons, Ev_append, Ev_cons, ih, Ev_map_mulT]
theorem mulP_fac {b : Nat → Int} {f G : Pl} {i : Nat} {y : Int} (hf : BxP b f) (hi : i < 7) (hG : GaOk (facP i y) G) (g : List Int → Int) : Ev (mulP f G) g = Ev (rsP i f ++ sclP (-y) f) g := by
  rw [Ev_mulP, Ev_append, Ev_rs, Ev_scl, Ev_mul]
  have : ∀ f : Pl, BxP b f → Ev f (fun e => Ev G (fun e' => g (addE e e'))) = Ev f (fun e => g (rsE i e)) + -y * Ev f g := fun f hf => by
    induction f with
    | nil => simp [Ev]
    | cons t f ih =>
      have ih := ih fun s hs => hf s (List.mem_cons_of_mem _ hs)
      have h7 := (hf t List.mem_cons_self).1
      rw [Ev_cons, Ev_cons, Ev_cons, ih, hG.ev]
      unfold facP
      rw [Ev_cons, Ev_cons, Ev_nil, addE_unit h7 hi, addE_zero h7]
      try dsimp only
      grind
  exact this f hf
theorem L1P_mulT (t : List Int × Int) : ∀ G : Pl, L1P (G.map fun s => mulT t s) = t.2.natAbs * L1P G
  | [] => by simp [L1P]
  | s :: G => by
    rw [List.map_cons, L1P, L1P, L1P_mulT t G, Nat.mul_add]
    unfold mulT
    rw [Int.natAbs_mul]
theorem L1P_mulP (G : Pl) : ∀ f : Pl, L1P (mulP f G) = L1P f * L1P G
  | [] => by simp [mulP, L1P]
  | t :: f => by
    have ih := L1P_mulP G f
    unfold mulP at ih ⊢
    rw [List.flatMap_cons, L1P_append, L1P, ih, L1P_mulT, Nat.add_mul]
theorem mulP_len (G : Pl) : ∀ f : Pl, (mulP f G).length = f.length * G.length
  | [] => by simp [mulP]
  | t :: f => by
    have ih := mulP_len G f
    unfold mulP at ih ⊢
    rw [List.flatMap_cons, List.length_append, ih, List.length_map, List.length_cons, Nat.add_mul]
    omega
theorem mulP_box {b c : Nat → Int} {f G : Pl} (hf : BxP b f) (hG : BxP c G) : BxP (fun k => b k + c k) (mulP f G) := fun t ht => by
  unfold mulP at ht
  obtain ⟨s, hs, ht⟩ := List.mem_flatMap.1 ht
  obtain ⟨r, hr, rfl⟩ := List.mem_map.1 ht
  obtain ⟨h1, h2⟩ := hf s hs
  obtain ⟨g1, g2⟩ := hG r hr
  refine ⟨addE_len h1 g1, fun k hk => ?_⟩
  show 0 ≤ (addE _ _).getD k 0 ∧ (addE _ _).getD k 0 ≤ _
  rw [addE_getD h1 g1 hk]
  have := h2 k hk
  have := g2 k hk
  try dsimp only
  omega
theorem fac_box {i : Nat} (hi : i < 7) (y : Int) : BxP (fun k => if k = i then 1 else 0) (facP i y) := fun t ht => by
  unfold facP at ht
  simp only [List.mem_cons, List.not_mem_nil, or_false] at ht
  rcases ht with rfl | rfl
  · refine ⟨unitE_len i, fun k hk => ?_⟩
    show 0 ≤ (unitE i).getD k 0 ∧ (unitE i).getD k 0 ≤ _
    rw [unitE_getD hi]
    try dsimp only
    split <;> omega
  · refine ⟨rfl, fun k hk => ?_⟩
    show 0 ≤ zeroE.getD k 0 ∧ zeroE.getD k 0 ≤ _
    rw [zeroE_getD]
    try dsimp only
    split <;> omega
theorem fac_l1 (i : Nat) (y : Int) : L1P (facP i y) = 1 + y.natAbs := by
  unfold facP
  simp [L1P]

/-! ### the product of the differences -/
structure SpT (n : Nat) (ys : List Int) (i j : Nat) (f : Pl) : Prop where
  ev : ∀ g, Ev f g = Ev (topJ i ys j (topI n ys i)) g
  box : BxP (fun k => if k = i then (if k < i then stB k else 0) + (j : Int) else if k < i then stB k else 0) f
  l1 : L1P f ≤ 10 ^ (topS n i + j)
  len : f.length ≤ 2 ^ (topS n i + j)
theorem zero_box (b : Nat → Int) (hb : ∀ k, k < 7 → 0 ≤ b k) : BxP b [(zeroE, 1)] := fun t ht => by
  rw [List.mem_singleton] at ht
  subst ht
  refine ⟨rfl, fun k hk => ?_⟩
  show 0 ≤ zeroE.getD k 0 ∧ zeroE.getD k 0 ≤ _
  rw [zeroE_getD]
  exact ⟨Int.le_refl _, hb k hk⟩
theorem SpT.start (n : Nat) (ys : List Int) : SpT n ys 0 0 [(zeroE, 1)] where
  ev g := rfl
  box := zero_box _ fun k hk => by
    by_cases e : k = 0
    · simp [e]
    · simp [e]
  l1 := by simp [L1P, topS]
  len := by simp [topS]
theorem SpT.step {n i j : Nat} {ys : List Int} {f G f' : Pl} (h : SpT n ys i j f) (hi : i < 7) (hy : (ys.getD j 0).natAbs ≤ 9) (hG : GaOk (facP i (ys.getD j 0)) G) (hf : GaOk (mulP f G) f') : SpT n ys i (j + 1) f' where
  ev g := by
    rw [hf.ev, mulP_fac h.box hi hG, Ev_append, Ev_rs, Ev_scl, Ev_mul]
    unfold topJ
    rw [Ev_append, Ev_rs, Ev_scl, Ev_mul, h.ev, h.ev]
  box := (hf.box (mulP_box h.box (hG.box (fac_box hi _)))).mono fun k hk => by
    try dsimp only
    by_cases e : k = i
    · rw [if_pos e, if_pos e, if_pos e]; omega
    · rw [if_neg e, if_neg e, if_neg e]; omega
  l1 := by
    refine Nat.le_trans hf.l1 ?_
    rw [L1P_mulP, ← Nat.add_assoc, Nat.pow_succ]
    have := hG.l1
    rw [fac_l1] at this
    exact Nat.mul_le_mul h.l1 (by omega)
  len := by
    refine Nat.le_trans hf.len ?_
    rw [mulP_len, ← Nat.add_assoc, Nat.pow_succ]
    exact Nat.mul_le_mul h.len hG.len
theorem SpT.row {n i : Nat} {ys : List Int} {f : Pl} (h : SpT n ys i (n - 1 - i) f) (hn : n ≤ 5) (hi : i < n) : SpT n ys (i + 1) 0 f where
  ev g := h.ev g
  box := h.box.mono fun k hk => by
    try dsimp only
    by_cases e : k = i
    · subst e
      rw [if_pos rfl, if_neg (by omega), if_neg (by omega), if_pos (by omega)]
      unfold stB; omega
    · rw [if_neg e]
      by_cases e2 : k < i
      · rw [if_pos e2, if_neg (by omega), if_pos (by omega)]; omega
      · rw [if_neg e2]
        split
        · rw [if_neg (by omega)]; omega
        · rw [if_neg (by omega)]; omega
  l1 := h.l1
  len := h.len
/-- a list of terms, ahead of m divided differences -/
structure SpD (Q : Pl) (m : Nat) (f : Pl) : Prop where
  ev : ∀ g, Ev f g = Ev Q g
  box : BxP stB f
  l1 : L1P f ≤ 4 ^ m * 10000000000
  len : f.length ≤ 4 ^ m * 1024
theorem SpT.done {n : Nat} {ys : List Int} {f : Pl} (h : SpT n ys n 0 f) (hn : n ≤ 5) : SpD (topI n ys n) 0 f where
  ev g := h.ev g
  box := h.box.mono fun k hk => by
    have := stB_nn k
    try dsimp only
    split
    · split <;> omega
    · split <;> omega
  l1 := Nat.le_trans h.l1 (Nat.le_trans (Nat.pow_le_pow_right (by omega) (show topS n n + 0 ≤ 10 from topS_end hn)) (by decide))
  len := Nat.le_trans h.len (Nat.le_trans (Nat.pow_le_pow_right (by omega) (show topS n n + 0 ≤ 10 from topS_end hn)) (by decide))
theorem SpD.step {Q f f' : Pl} {m i : Nat} (h : SpD Q m f) (hi : i < 4) (hf : GaOk (dvP i f) f') : SpD (dvP i Q) (m + 1) f' where
  ev g := by rw [hf.ev, Ev_dv, Ev_dv, h.ev]
  box := hf.box (dvP_box hi h.box).1
  l1 := by
    have := (dvP_box hi h.box).2.1
    have := hf.l1
    have := h.l1
    rw [Nat.pow_succ]
    omega
  len := by
    have := (dvP_box hi h.box).2.2
    have := hf.len
    have := h.len
    rw [Nat.pow_succ]
    omega
/-- the places at which a permutation grows -/
def upL : Nat → List Int → List Nat
  | 0, _ => []
  | f + 1, xs => match fasc xs with
    | none => []
    | some k => k :: upL f (swapL xs k (k + 1))
theorem low_up (P : Pl) : ∀ f xs, lowP f xs P = (upL f xs).foldr dvP P
  | 0, _ => rfl
  | f + 1, xs => by
    unfold lowP upL
    cases fasc xs with
    | none => rfl
    | some k => dsimp only; rw [low_up P f]; rfl
theorem upL_len : ∀ f xs, (upL f xs).length ≤ f
  | 0, _ => Nat.le_refl _
  | f + 1, xs => by
    unfold upL
    cases fasc xs with
    | none => simp
    | some k => dsimp only; rw [List.length_cons]; have := upL_len f (swapL xs k (k + 1)); omega
theorem upL_lt : ∀ f xs, xs.length ≤ 5 → ∀ k ∈ upL f xs, k < 4
  | 0, _, _ => fun k hk => by cases hk
  | f + 1, xs, hl => fun k hk => by
    unfold upL at hk
    cases hf : fasc xs with
    | none => rw [hf] at hk; cases hk
    | some j =>
      rw [hf] at hk
      rcases List.mem_cons.1 hk with rfl | hk
      · have := fasc_ltC hf
        omega
      · exact upL_lt f _ (by unfold swapL; simpa using hl) k hk
/-- what l2Shut asks, as far as it is used: different exponents, small numbers -/
theorem spD_small {Q f : Pl} {m : Nat} (h : SpD Q m f) (hn : (f.map (·.1)).Nodup) (hc : ∀ t ∈ f, -1000000 ≤ t.2 ∧ t.2 ≤ 1000000) (e : List Int) : -1000000 ≤ cfP Q e ∧ cfP Q e ≤ 1000000 := by
  have e1 : cfP Q e = cfP f e := (h.ev _).symm
  rw [e1]
  by_cases hx : ∃ t ∈ f, t.1 = e
  · obtain ⟨t, ht, rfl⟩ := hx
    rw [cf_one hn ht]
    exact hc t ht
  · rw [cf_none fun t ht e2 => hx ⟨t, ht, e2⟩]
    omega

end Go.Proofs.Ytllmhicmikpfeaa

namespace Go.Proofs.Ytllmhicmikpfeaa
set_option linter.all false
set_option maxRecDepth 100000
open Go.RowKit

/-- a part of the merging -/
structure MgOk (Q N : Pl) (A i j M E : Nat) : Prop where
  ai : A ≤ i
  im : i ≤ M
  mj : M ≤ j
  je : j ≤ E
  pm : (N ++ sub i M Q ++ sub j E Q).Perm (Q.take E)
theorem MgOk.start {Q N : Pl} {A M E : Nat} (h : N.Perm (Q.take A)) (h1 : A ≤ M) (h2 : M ≤ E) (h3 : E ≤ Q.length) : MgOk Q N A A M M E where
  ai := Nat.le_refl _
  im := h1
  mj := Nat.le_refl _
  je := h2
  pm := by
    rw [List.append_assoc, sub_join h1 h2 h3]
    refine List.Perm.trans (List.Perm.append_right _ h) (List.Perm.of_eq ?_)
    have := sub_join (a := 0) (b := A) (c := E) (P := Q) (Nat.zero_le _) (Nat.le_trans h1 h2) h3
    unfold sub at this ⊢
    simpa using this
theorem MgOk.done {Q N : Pl} {A M E : Nat} (h : MgOk Q N A M E M E) : N.Perm (Q.take E) := by
  have := h.pm
  rw [sub_nil, sub_nil, List.append_nil, List.append_nil] at this
  exact this
theorem MgOk.left {Q N : Pl} {A i j M E : Nat} (h : MgOk Q N A i j M E) (hi : i < M) (hE : E ≤ Q.length) : MgOk Q (N ++ [Q.getD i tmD]) A (i + 1) j M E where
  ai := Nat.le_succ_of_le h.ai
  im := hi
  mj := h.mj
  je := h.je
  pm := merge_left h.pm hi (by have := h.mj; have := h.je; omega)
theorem MgOk.right {Q N : Pl} {A i j M E : Nat} (h : MgOk Q N A i j M E) (hj : j < E) (hE : E ≤ Q.length) : MgOk Q (N ++ [Q.getD j tmD]) A i (j + 1) M E where
  ai := h.ai
  im := h.im
  mj := Nat.le_succ_of_le h.mj
  je := hj
  pm := merge_right h.pm hj hE
theorem MgOk.len {Q N : Pl} {A i j M E : Nat} (h : MgOk Q N A i j M E) (hE : E ≤ Q.length) : N.length ≤ Q.length := by
  have := h.pm.length_eq
  rw [List.length_append, List.length_append, List.length_take] at this
  omega

theorem L1P_take (P : Pl) (k : Nat) : L1P (P.take k) ≤ L1P P := by
  have : L1P P = L1P (P.take k) + L1P (P.drop k) := by rw [← L1P_append, List.take_append_drop]
  omega
theorem L1P_last (T : Pl) (s : List Int × Int) : s.2.natAbs ≤ L1P (T ++ [s]) := by
  rw [L1P_append, L1P, L1P]; omega
theorem takeT_snoc {P : Pl} {k : Nat} (h : k < P.length) : P.take (k + 1) = P.take k ++ [P.getD k tmD] := by
  rw [List.take_add_one, List.getElem?_eq_getElem h, List.getD_eq_getElem?_getD, List.getElem?_eq_getElem h]
  rfl
theorem msOf_one (t : List Int × Int) : msOf [t] = [(keyN t.1, t.2)] := rfl
theorem getD_tm {P : Pl} {k : Nat} (h : k < P.length) : P.getD k tmD ∈ P := by
  rw [List.getD_eq_getElem?_getD, List.getElem?_eq_getElem h]
  exact List.getElem_mem h
theorem getD_last {T : Pl} {s : List Int × Int} : (T ++ [s]).getD T.length tmD = s := by
  simp [List.getD_eq_getElem?_getD]
theorem OwnMn.setCell {w : World} {lo hi : Nat} {v : Value} {cs : List Mn} (h : OwnMn w lo hi v cs) {a : Addr} (ho : a.block < lo ∨ hi ≤ a.block) (u : Value) : OwnMn (w.setCell a u) lo hi v cs := Own.setCell h ho u
theorem cell_ms {w : World} {lo hi g n k : Nat} {Q : Pl} (h : OwnMn w lo hi (.slice (some ⟨g, 0, none⟩) n k) (msOf Q)) {i : Nat} (hi' : i < Q.length) :
    w.cell? ⟨g, i * 2, none⟩ = some (.int .i64 (keyN (Q.getD i tmD).1)) ∧ w.cell? ⟨g, i * 2 + 1, none⟩ = some (.int .i64 (Q.getD i tmD).2) := by
  obtain ⟨p, cap, e, _, hc⟩ := h.rd
  injection e with e1 e2 e3
  obtain ⟨b, rfl, hc2⟩ := hc (by rw [msOf_length]; omega)
  clear hc
  injection e1 with e1
  injection e1 with e1
  subst e1
  have := hc2 i (by rw [msOf_length]; exact hi')
  rw [msOf_getD hi'] at this
  exact this

set_option maxHeartbeats 8000000 in
theorem l2Gather_any (v : Value) (P : Pl) (w : World) (h : RdMn w v (msOf P)) (hb : BxP B127 P) (hl : P.length ≤ 1073741824) (h1 : L1P P ≤ 1000000000000000000) :
    Calls Try.prog 67 #[v] w fun e w' => ∃ u P', e = .returned u ∧ OwnMn w' w.heap.size w'.heap.size u (msOf P') ∧ GaOk P P' ∧ Below w.heap.size w w' := by
  have Hh := Lib.hid h
  have Hb := Lib.hid hb
  have H1 := Lib.hid h1
  have hms := msOf_length P
  obtain ⟨p, k, rfl, hk1, hk2⟩ := h.sh
  obtain ⟨L, hL⟩ : ∃ L, L = P.length := ⟨_, rfl⟩
  have HL := Lib.hid hL
  rw [hms, ← hL] at Hh hk1 ⊢
  rw [← hL] at hl
  obtain ⟨B, hB⟩ : ∃ B, B = w.heap.size := ⟨_, rfl⟩
  have HB := Lib.hid hB
  have Hhr := Lib.hid (Hh.out.below (below_alloc w (.cells #[] 81)))
  have Hmd := Lib.hid (OwnMn.made0 w)
  clear h hb h1 hms hL
  go_enter Try.func67, Try.ntmps67
  go_wp2_with (at_builtin; go_must (refine wpList_append_MnL rfl (.tmp 15) (.tmp 16) rfl w.heap.size (w.heap.size + 1) _ [] rfl Hmd.out (by simp) (by simp) _ (msOf P) rfl Hhr.out (by rw [msOf_length, ← HL.out]; simp; omega) ?_; intro v1 w1 ho1 hg1))
  rw [List.nil_append] at ho1
  have hs1 := hg1.size
  rw [size_alloc] at hs1
  have Hb1 := Lib.hid (show Below w.heap.size w w1 from (below_alloc w _).trans (grownBy_below hg1 Hmd.out.blocks (Nat.le_refl _) (by simp)))
  have Ho1 := Lib.hid ho1
  obtain ⟨iM, hi, hz, hsz, hby⟩ := info_partsS info_mon
  have Hi := Lib.hid hi
  have Hz := Lib.hid hz
  have Hsz := Lib.hid hsz
  have Hby := Lib.hid hby
  clear ho1 hg1 hi hz hsz hby
  go_loopg [3, 4] (L - 1) (fun g s3 s4 wr => ∃ (Q : Pl) (S : Nat), g = L - S ∧ 1 ≤ S ∧ S ≤ 2 * L + 1 ∧ s4 = .int .i64 (S : Int) ∧ Hid (Q.Perm P) ∧ Hid (OwnMn wr w.heap.size wr.heap.size s3 (msOf Q)) ∧ Hid (Below w.heap.size w wr))
  case atStart => exact ⟨P, 1, rfl, by omega, by omega, rfl, List.Perm.refl _, Ho1.out, Hb1.out⟩
  case round =>
    obtain ⟨Q, S, rfl, hS1, hS2, rfl, hQ, ho, hb⟩ := hrel
    obtain ⟨wo, rfl⟩ : ∃ x : World, x = wr := ⟨_, rfl⟩
    have hQl : Q.length = L := by rw [hQ.out.length_eq, HL.out]
    have HQl := Lib.hid hQl
    obtain ⟨p3, k3, rfl, _, _, hp3⟩ := ho.out.shape
    rw [msOf_length, hQl] at hp3
    have ho' := ho.out
    have hszo := hb.out.size
    rw [msOf_length, hQl] at ho' ⊢
    have Ho := Lib.hid ho'
    clear ho' ho hQl
    by_cases hlt : S < L
    · have hSi : (S : Int) < (L : Int) := by omega
      obtain ⟨b3, rfl, h3a, h3b, _⟩ := hp3 (by omega)
      go_wp2_with (at_make; go_must (refine wpList_make_own _ rfl _ _ 59 rfl wo.heap.size 81 iM _ 2 Try.underlying59 Hi.out Hz.out Hsz.out _ _ _ L rfl rfl rfl (by rw [Hby.out]; omega) (by unfold maxLen; omega) (Nat.le_refl _) ?_; intro w2 ho2 hg2))
      have hs2 : wo.heap.size ≤ w2.heap.size := hg2.size
      have hb2 : Below wo.heap.size wo w2 := ⟨hg2.os, hg2.tape, hg2.output, hg2.size, fun i hi => hg2.block i hi (fun e => by cases e)⟩
      have Hn2 := Lib.hid (show OwnMn w2 wo.heap.size w2.heap.size (.slice (some ⟨wo.heap.size, 0, none⟩) 0 L) (msOf []) from Own.of_row ho2)
      have Ho2 := Lib.hid (Ho.out.below hb2)
      have Hb2 := Lib.hid (hb.out.trans (hb2.mono hszo))
      clear ho2 hg2 hb2
      go_loopg [5, 6] L (fun g s5 s6 wz => ∃ (N : Pl) (A : Nat), g = L - A ∧ A ≤ 3 * L ∧ s6 = .int .i64 (A : Int) ∧ Hid (N.Perm (Q.take A)) ∧ Hid (OwnMn wz wo.heap.size wz.heap.size s5 (msOf N)) ∧ Hid (OwnMn wz w.heap.size wo.heap.size (.slice (some ⟨b3, 0, none⟩) L k3) (msOf Q)) ∧ Hid (Below w.heap.size w wz) ∧ wo.heap.size ≤ wz.heap.size)
      case atStart => exact ⟨[], 0, rfl, by omega, rfl, List.Perm.refl _, Hn2.out, Ho2.out, Hb2.out, hs2⟩
      case round =>
        obtain ⟨N, A, rfl, hA, rfl, hN, hn, hq, hbz, hsz2⟩ := hrel
        obtain ⟨wz, rfl⟩ : ∃ x : World, x = wr := ⟨_, rfl⟩
        by_cases hAl : A < L
        · have hAi : (A : Int) < (L : Int) := by omega
          obtain ⟨M, hM⟩ : ∃ M, M = min (A + S) L := ⟨_, rfl⟩
          obtain ⟨E, hE⟩ : ∃ E, E = min (A + 2 * S) L := ⟨_, rfl⟩
          have hAM : A ≤ M := by omega
          have hME : M ≤ E := by omega
          have hEL : E ≤ L := by omega
          have iM : min ((A : Int) + (S : Int)) (L : Int) = (M : Int) := by omega
          have iE : min ((A : Int) + 2 * (S : Int)) (L : Int) = (E : Int) := by omega
          have HE := Lib.hid hE
          have HMg := Lib.hid (MgOk.start (M := M) (E := E) hN.out hAM hME (by rw [HQl.out]; exact hEL))
          clear hM hE hN
          go_wp2_with fail
          go_loopg [5, 7, 9] ((M - A) + (E - M)) (fun g s5 s7 s9 wv => ∃ (N : Pl) (i j : Nat), g = (M - i) + (E - j) ∧ s7 = .int .i64 (i : Int) ∧ s9 = .int .i64 (j : Int) ∧ Hid (MgOk Q N A i j M E) ∧ Hid (OwnMn wv wo.heap.size wv.heap.size s5 (msOf N)) ∧ Hid (OwnMn wv w.heap.size wo.heap.size (.slice (some ⟨b3, 0, none⟩) L k3) (msOf Q)) ∧ Hid (Below w.heap.size w wv) ∧ wo.heap.size ≤ wv.heap.size)
          case atStart => exact ⟨N, A, M, rfl, rfl, rfl, HMg.out, hn.out, hq.out, hbz.out, hsz2⟩
          case round =>
            obtain ⟨N, i, j, rfl, rfl, rfl, hmg, hn, hq, hbv, hsz3⟩ := hrel
            obtain ⟨wv, rfl⟩ : ∃ x : World, x = wr := ⟨_, rfl⟩
            have hEQ : E ≤ Q.length := by rw [HQl.out]; exact hEL
            have hNl := hmg.out.len hEQ
            rw [HQl.out] at hNl
            obtain ⟨p5, k5, rfl, _, _, _⟩ := hn.out.shape
            have hn' := hn.out
            rw [msOf_length] at hn' ⊢
            obtain ⟨NL, hNL⟩ : ∃ n, n = N.length := ⟨_, rfl⟩
            rw [← hNL] at hn' hNl ⊢
            have HNL := Lib.hid hNL
            have Hn := Lib.hid hn'
            clear hn hn' hNL
            have hgo : ∀ (W : World) (v' : Value) (w' : World) (t : List Int × Int), Below wv.heap.size wv W → W.grownBy w' (Value.slice p5 NL k5).ownBlock → OwnMn w' wo.heap.size w'.heap.size v' (msOf N ++ [(keyN t.1, t.2)]) →
                Hid (OwnMn w' wo.heap.size w'.heap.size v' (msOf (N ++ [t]))) ∧ Hid (OwnMn w' w.heap.size wo.heap.size (.slice (some ⟨b3, 0, none⟩) L k3) (msOf Q)) ∧ Hid (Below w.heap.size w w') ∧ wo.heap.size ≤ w'.heap.size := fun W v' w' t hW hg ho => by
              have h1 := hW.size
              have h2 := hg.size
              refine ⟨?_, ?_, ?_, by omega⟩
              · rw [msOf_append]; exact ho
              · refine (hq.out.below hW).grown hg fun k hk e => ?_
                have := (hq.out.blocks k hk).2
                have := (Hn.out.blocks k e).1
                omega
              · exact hbv.out.trans ((hW.mono (by omega)).trans (grownBy_below hg Hn.out.blocks hszo (by omega)))
            have HGO := Lib.hid hgo
            clear hgo
            by_cases hi : i < M
            · have hiI : (i : Int) < (M : Int) := by omega
              have hiQ : i < Q.length := by omega
              have hiL : (i : Int) < (L : Int) := by omega
              obtain ⟨ci1, ci2⟩ := cell_ms hq.out hiQ
              have Hlf := Lib.hid (hmg.out.left hi hEQ)
              obtain ⟨ti, hti⟩ : ∃ t, t = Q.getD i tmD := ⟨_, rfl⟩
              rw [← hti] at ci1 ci2 Hlf
              obtain ⟨ei, vi⟩ := ti
              dsimp only at ci1 ci2
              obtain ⟨Ki, hKi⟩ : ∃ K, K = keyN ei := ⟨_, rfl⟩
              rw [← hKi] at ci1
              have HKi := Lib.hid hKi
              clear hti hKi
              by_cases hj : j < E
              · have hjI : (j : Int) < (E : Int) := by omega
                have hjn : ¬ ((E : Int) ≤ (j : Int)) := by omega
                have hjQ : j < Q.length := by omega
                have hjL : (j : Int) < (L : Int) := by omega
                obtain ⟨cj1, cj2⟩ := cell_ms hq.out hjQ
                have Hrt := Lib.hid (hmg.out.right hj hEQ)
                obtain ⟨tj, htj⟩ : ∃ t, t = Q.getD j tmD := ⟨_, rfl⟩
                rw [← htj] at cj1 cj2 Hrt
                obtain ⟨ej, vj⟩ := tj
                dsimp only at cj1 cj2
                obtain ⟨Kj, hKj⟩ : ∃ K, K = keyN ej := ⟨_, rfl⟩
                rw [← hKj] at cj1
                have HKj := Lib.hid hKj
                clear htj hKj
                by_cases hk : Kj ≤ Ki
                · go_wp2_with fail
                  go_quiet (fail)
                  go_wp2_with (at_builtin; go_must (refine wpList_append_Mn rfl (.tmp 79) (.tmp 84) rfl wo.heap.size wv.heap.size _ (msOf N) rfl (Hn.out.below ((Below.of_drewN wv _).alloc (Nat.le_refl _) _)) (by rw [size_alloc]; exact Nat.le_succ_of_le hsz3) _ _ (Ki, vi) rfl (cell_of_blk (heap_alloc_top _ _) (j := 0) rfl) (cell_of_blk (heap_alloc_top _ _) (j := 1) rfl) (by rw [msOf_length, ← HNL.out]; omega) ?_; intro v' w' ho' hg'))
                  go_roundg ((M - (i + 1)) + (E - j))
                  case measure => omega
                  case rel =>
                    obtain ⟨r1, r2, r3, r4⟩ := HGO.out _ v' w' (ei, vi) ((Below.of_drewN wv _).alloc (Nat.le_refl _) _) hg' (by rw [HKi.out] at ho'; exact ho')
                    exact ⟨_, (i + 1), j, rfl, by go_num, by go_num, Hlf.out, r1, r2, r3, r4⟩
                · go_wp2_with fail
                  go_quiet (fail)
                  go_wp2_with (at_builtin; go_must (refine wpList_append_Mn rfl (.tmp 88) (.tmp 93) rfl wo.heap.size wv.heap.size _ (msOf N) rfl (Hn.out.below ((Below.of_drewN wv _).alloc (Nat.le_refl _) _)) (by rw [size_alloc]; exact Nat.le_succ_of_le hsz3) _ _ (Kj, vj) rfl (cell_of_blk (heap_alloc_top _ _) (j := 0) rfl) (cell_of_blk (heap_alloc_top _ _) (j := 1) rfl) (by rw [msOf_length, ← HNL.out]; omega) ?_; intro v' w' ho' hg'))
                  go_roundg ((M - i) + (E - (j + 1)))
                  case measure => omega
                  case rel =>
                    obtain ⟨r1, r2, r3, r4⟩ := HGO.out _ v' w' (ej, vj) ((Below.of_drewN wv _).alloc (Nat.le_refl _) _) hg' (by rw [HKj.out] at ho'; exact ho')
                    exact ⟨_, i, (j + 1), rfl, by go_num, by go_num, Hrt.out, r1, r2, r3, r4⟩
              · have hjn : ¬ ((j : Int) < (E : Int)) := by omega
                have hjn2 : (E : Int) ≤ (j : Int) := by omega
                go_wp2_with fail
                go_quiet (fail)
                go_wp2_with (at_builtin; go_must (refine wpList_append_Mn rfl (.tmp 79) (.tmp 84) rfl wo.heap.size wv.heap.size _ (msOf N) rfl (Hn.out.below ((Below.of_drewN wv _).alloc (Nat.le_refl _) _)) (by rw [size_alloc]; exact Nat.le_succ_of_le hsz3) _ _ (Ki, vi) rfl (cell_of_blk (heap_alloc_top _ _) (j := 0) rfl) (cell_of_blk (heap_alloc_top _ _) (j := 1) rfl) (by rw [msOf_length, ← HNL.out]; omega) ?_; intro v' w' ho' hg'))
                go_roundg ((M - (i + 1)) + (E - j))
                case measure => omega
                case rel =>
                  obtain ⟨r1, r2, r3, r4⟩ := HGO.out _ v' w' (ei, vi) ((Below.of_drewN wv _).alloc (Nat.le_refl _) _) hg' (by rw [HKi.out] at ho'; exact ho')
                  exact ⟨_, (i + 1), j, rfl, by go_num, by go_num, Hlf.out, r1, r2, r3, r4⟩
            · have hin : ¬ ((i : Int) < (M : Int)) := by omega
              by_cases hj : j < E
              · have hjI : (j : Int) < (E : Int) := by omega
                have hjn : ¬ ((E : Int) ≤ (j : Int)) := by omega
                have hjQ : j < Q.length := by omega
                have hjL : (j : Int) < (L : Int) := by omega
                obtain ⟨cj1, cj2⟩ := cell_ms hq.out hjQ
                have Hrt := Lib.hid (hmg.out.right hj hEQ)
                obtain ⟨tj, htj⟩ : ∃ t, t = Q.getD j tmD := ⟨_, rfl⟩
                rw [← htj] at cj1 cj2 Hrt
                obtain ⟨ej, vj⟩ := tj
                dsimp only at cj1 cj2
                obtain ⟨Kj, hKj⟩ : ∃ K, K = keyN ej := ⟨_, rfl⟩
                rw [← hKj] at cj1
                have HKj := Lib.hid hKj
                clear htj hKj
                go_wp2_with fail
                have g1 : ((i : Int) < (M : Int)) = False := eq_false (by omega)
                have g2 : ((E : Int) ≤ (j : Int)) = False := eq_false (by omega)
                go_quiet (fail)
                go_wp2_with (at_builtin; go_must (refine wpList_append_Mn rfl (.tmp 88) (.tmp 93) rfl wo.heap.size wv.heap.size _ (msOf N) rfl (Hn.out.below ((Below.of_drewN wv _).alloc (Nat.le_refl _) _)) (by rw [size_alloc]; exact Nat.le_succ_of_le hsz3) _ _ (Kj, vj) rfl (cell_of_blk (heap_alloc_top _ _) (j := 0) rfl) (cell_of_blk (heap_alloc_top _ _) (j := 1) rfl) (by rw [msOf_length, ← HNL.out]; omega) ?_; intro v' w' ho' hg'))
                go_roundg ((M - i) + (E - (j + 1)))
                case measure => omega
                case rel =>
                  obtain ⟨r1, r2, r3, r4⟩ := HGO.out _ v' w' (ej, vj) ((Below.of_drewN wv _).alloc (Nat.le_refl _) _) hg' (by rw [HKj.out] at ho'; exact ho')
                  exact ⟨_, i, (j + 1), rfl, by go_num, by go_num, Hrt.out, r1, r2, r3, r4⟩
              · have hjn : ¬ ((j : Int) < (E : Int)) := by omega
                have hiM : i = M := by have := hmg.out.im; omega
                have hjE : j = E := by have := hmg.out.je; omega
                have hpm := hmg.out
                rw [hiM, hjE] at hpm
                have Hpm := Lib.hid (show N.Perm (Q.take (A + 2 * S)) by
                  have h1 := hpm.done
                  have h2 := HE.out
                  by_cases h3 : A + 2 * S ≤ L
                  · rw [show A + 2 * S = E by omega]; exact h1
                  · rw [List.take_of_length_le (by rw [HQl.out]; omega)]
                    rw [List.take_of_length_le (by rw [HQl.out]; omega)] at h1
                    exact h1)
                clear hiM hjE hpm
                go_wp2_with fail
                go_roundg (L - (A + 2 * S))
                case measure => omega
                case rel => exact ⟨N, A + 2 * S, rfl, by omega, by go_num, Hpm.out, Hn.out, hq.out, hbv.out, hsz3⟩
        · have hAn : ¬ ((A : Int) < (L : Int)) := by omega
          have Hpm := Lib.hid (show N.Perm P by
            have := hN.out
            rw [List.take_of_length_le (by rw [HQl.out]; omega)] at this
            exact this.trans hQ.out)
          have Hn3 := Lib.hid (hn.out.mono hszo (Nat.le_refl _))
          obtain ⟨p5, k5, rfl, _, _, _⟩ := hn.out.shape
          clear hN hn hq
          go_wp2_with fail
          go_roundg (L - 2 * S)
          case measure => omega
          case rel => exact ⟨N, 2 * S, by omega, by omega, by omega, by go_num, Hpm.out, Hn3.out, hbz.out⟩
    · have hSn : ¬ ((S : Int) < (L : Int)) := by omega
      have Hga := Lib.hid (GaOk.of_perm hQ.out)
      have Hqb := Lib.hid (show BxP B127 Q from Hga.out.box Hb.out)
      have Hq1 := Lib.hid (Nat.le_trans Hga.out.l1 H1.out)
      have Hm0 := Lib.hid (OwnMn.made0 wo)
      have Hq0 := Lib.hid (Ho.out.below (below_alloc wo (.cells #[] 81)))
      have Hb0 := Lib.hid (hb.out.trans ((below_alloc wo (.cells #[] 81)).mono hszo))
      clear Hi Hz Hsz Hby
      go_wp2_with fail
      go_loopg [11, 12] L (fun g s11 s12 wz => ∃ (k : Nat) (T : Pl), k ≤ L ∧ g = L - k ∧ s12 = .int .i64 (k : Int) ∧ Hid (GaOk (Q.take k) T) ∧ Hid (OwnMn wz wo.heap.size wz.heap.size s11 (msOf T)) ∧ Hid (OwnMn wz w.heap.size wo.heap.size (.slice p3 L k3) (msOf Q)) ∧ Hid (Below w.heap.size w wz) ∧ wo.heap.size ≤ wz.heap.size)
      case atStart => exact ⟨0, [], Nat.zero_le _, rfl, rfl, GaOk.nil, by have := Hm0.out; rw [← size_alloc] at this; exact this, Hq0.out, Hb0.out, by simp⟩
      case round =>
        obtain ⟨k, T, hk, rfl, rfl, hT, hs, hq, hbz, hsz2⟩ := hrel
        obtain ⟨wz, rfl⟩ : ∃ x : World, x = wr := ⟨_, rfl⟩
        by_cases hkl : k < L
        · have hkI : (k : Int) < (L : Int) := by omega
          obtain ⟨b3, rfl, h3a, h3b, _⟩ := hp3 (by omega)
          have hkQ : k < Q.length := by rw [HQl.out]; exact hkl
          obtain ⟨ck1, ck2⟩ := cell_ms hq.out hkQ
          have Hsn := Lib.hid (takeT_snoc hkQ)
          have Htb := Lib.hid (Hqb.out _ (getD_tm hkQ))
          have Hl1 := Lib.hid (Nat.le_trans (L1P_take Q (k + 1)) Hq1.out)
          have hTl := hT.out.len
          rw [List.length_take, HQl.out] at hTl
          obtain ⟨t, ht⟩ : ∃ t, t = Q.getD k tmD := ⟨_, rfl⟩
          rw [← ht] at ck1 ck2 Hsn Htb
          obtain ⟨et, vt⟩ := t
          dsimp only at ck1 ck2 Htb
          obtain ⟨Kt, hKt⟩ : ∃ K, K = keyN et := ⟨_, rfl⟩
          rw [← hKt] at ck1
          have HKt := Lib.hid hKt
          clear ht hKt
          obtain ⟨p5, k5, rfl, hk5, hk55, hp5⟩ := hs.out.shape
          have hs' := hs.out
          rw [msOf_length] at hs' hk5 hp5 ⊢
          obtain ⟨TL, hTL⟩ : ∃ n, n = T.length := ⟨_, rfl⟩
          rw [← hTL] at hs' hTl hk5 hp5 ⊢
          have HTL := Lib.hid hTL
          have Hs := Lib.hid hs'
          have hTk : TL ≤ k := by omega
          have Hn1 := Lib.hid (show (msOf T).length + 1 ≤ 4000000000 by rw [msOf_length, ← HTL.out]; omega)
          clear hs hs' hTL hTl
          have hgo : ∀ (W : World) (v' : Value) (w' : World), Below wz.heap.size wz W → W.grownBy w' (Value.slice p5 TL k5).ownBlock → OwnMn w' wo.heap.size w'.heap.size v' (msOf T ++ [(keyN et, vt)]) →
              Hid (GaOk (Q.take (k + 1)) (T ++ [(et, vt)])) ∧ Hid (OwnMn w' wo.heap.size w'.heap.size v' (msOf (T ++ [(et, vt)]))) ∧ Hid (OwnMn w' w.heap.size wo.heap.size (.slice (some ⟨b3, 0, none⟩) L k3) (msOf Q)) ∧ Hid (Below w.heap.size w w') ∧ wo.heap.size ≤ w'.heap.size := fun W v' w' hW hg ho => by
            have h1 := hW.size
            have h2 := hg.size
            refine ⟨?_, ?_, ?_, ?_, by omega⟩
            · rw [Hsn.out]; exact hT.out.snoc _
            · rw [msOf_append]; exact ho
            · refine (hq.out.below hW).grown hg fun k hk e => ?_
              have := (hq.out.blocks k hk).2
              have := (Hs.out.blocks k e).1
              omega
            · exact hbz.out.trans ((hW.mono (by omega)).trans (grownBy_below hg Hs.out.blocks hszo (by omega)))
          have HGO := Lib.hid hgo
          clear hgo
          rcases List.eq_nil_or_concat T with hT0 | ⟨T0, st, hT0⟩
          · have hz0 : TL = 0 := by rw [HTL.out, hT0]; rfl
            subst hz0
            clear hT0
            go_wp2_with fail
            go_quiet (fail)
            go_wp2_with (at_builtin; go_must (refine wpList_append_Mn rfl (.tmp 142) (.tmp 147) rfl wo.heap.size wz.heap.size _ (msOf T) rfl (Hs.out.below ((Below.of_drewN wz _).alloc (Nat.le_refl _) _)) (by rw [size_alloc]; exact Nat.le_succ_of_le hsz2) _ _ (Kt, vt) rfl (cell_of_blk (heap_alloc_top _ _) (j := 0) rfl) (cell_of_blk (heap_alloc_top _ _) (j := 1) rfl) Hn1.out ?_; intro v' w' ho' hg'))
            go_roundg (L - (k + 1))
            case measure => omega
            case rel =>
              obtain ⟨r1, r2, r3, r4, r5⟩ := HGO.out _ v' w' ((Below.of_drewN wz _).alloc (Nat.le_refl _) _) hg' (by rw [HKt.out] at ho'; exact ho')
              exact ⟨k + 1, _, by omega, rfl, by go_num, r1, r2, r3, r4, r5⟩
          · rw [List.concat_eq_append] at hT0
            obtain ⟨m, hm⟩ : ∃ m, m = T0.length := ⟨_, rfl⟩
            have hz0 : TL = m + 1 := by rw [HTL.out, hT0, hm]; simp
            obtain ⟨g5, rfl, hg5a, hg5b, _⟩ := hp5 (by omega)
            have Hs2 := Lib.hid (show OwnMn wz wo.heap.size wz.heap.size (.slice (some ⟨g5, 0, none⟩) TL k5) (msOf (T0 ++ [st])) by rw [← hT0]; exact Hs.out)
            have c5 := cell_ms Hs2.out (i := T0.length) (by simp)
            rw [getD_last, ← hm] at c5
            obtain ⟨c51, c52⟩ := c5
            have Hsb := Lib.hid (show BxE B127 st.1 from by
              obtain ⟨s0, hs0, e0⟩ := hT.out.sub st (by rw [hT0]; simp)
              rw [← e0]
              exact Hqb.out _ (List.mem_of_mem_take hs0))
            have HT0 := Lib.hid hT0
            have Hm := Lib.hid hm
            obtain ⟨es, vs⟩ := st
            dsimp only at c51 c52 Hsb
            obtain ⟨Ks, hKs⟩ : ∃ K, K = keyN es := ⟨_, rfl⟩
            rw [← hKs] at c51
            have HKs := Lib.hid hKs
            have hw1 : IntKind.i64.wrap ((TL : Int) - 1) = (m : Int) := by rw [k64 (by omega) (by omega)]; omega
            have hm0 : (0 : Int) ≤ (m : Int) := by omega
            have hm1 : (m : Int) < (TL : Int) := by omega
            have g1 : (0 : Int) < (TL : Int) := by omega
            have Hz0 := Lib.hid hz0
            clear hT0 hm hKs hz0
            by_cases hK : Ks = Kt
            · have hst : es = et := keyN_inj Hsb.out Htb.out (by rw [← HKs.out, ← HKt.out, hK])
              have hj := GaOk.join (P := Q.take k) (S := T0) (s := (es, vs)) (t := (et, vt)) (by rw [← HT0.out]; exact hT.out) hst
              rw [← Hsn.out] at hj
              dsimp only at hj
              have hv := L1P_last T0 (es, vs + vt)
              have hv2 := Nat.le_trans (Nat.le_trans hv hj.l1) Hl1.out
              dsimp only at hv2
              have hws : IntKind.i64.wrap (vs + vt) = vs + vt := k64 (by omega) (by omega)
              have Hws := Lib.hid hws
              have Hj := Lib.hid hj
              have hfr := Hs2.out.free (m * 2 + 1)
              subst hK
              clear hst hj hv hv2 hws
              go_wp2_with fail
              have g2 : ((0 : Int) < (TL : Int)) = True := eq_true (by have := Hz0.out; omega)
              have g3 : (0 < TL) = True := eq_true (by have := Hz0.out; omega)
              go_quiet (fail)
              go_wp2_with fail
              have f1 := Hws.out
              obtain ⟨W, hW⟩ : ∃ W, W = wz.drewN nq := ⟨_, rfl⟩
              rw [← hW]
              have f2 : W.cell? ⟨g5, m * 2 + 1, none⟩ = some (.int .i64 vs) := by rw [hW]; exact c52
              have f3 : W.cell? ⟨b3, k * 2 + 1, none⟩ = some (.int .i64 vt) := by rw [hW]; exact ck2
              have f4 : W.frozen? ⟨g5, m * 2 + 1, none⟩ = false := by rw [hW]; exact hfr
              have HbW := Lib.hid (show Below wz.heap.size wz W by rw [hW]; exact Below.of_drewN _ _)
              have HsW := Lib.hid (show W.heap.size = wz.heap.size by rw [hW]; rfl)
              clear hW
              go_still_tail 19, (by kernel_rfl)
              change wpList _ _ _ _ _ W.drew
              clear f1
              go_wp2_with fail
              go_roundg (L - (k + 1))
              case measure => omega
              case rel =>
                have hbw := HbW.out
                have h1 := OwnMn.setLast (S := msOf T0) (m := (Ks, vs)) (by have := Hs2.out.below hbw; rw [msOf_append, msOf_one, ← HKs.out] at this; exact this) (vs + vt)
                rw [msOf_length, ← Hm.out] at h1
                have e1 : ((W.setCell ⟨g5, m * 2 + 1, none⟩ (.int .i64 (vs + vt))).drew).heap.size = wz.heap.size := by
                  show (W.setCell _ _).heap.size = _
                  rw [size_setCell]; exact HsW.out
                have e2 : Below w.heap.size w (W.setCell ⟨g5, m * 2 + 1, none⟩ (.int .i64 (vs + vt))).drew := Below.drewN ((hbz.out.trans (hbw.mono (by omega))).setCell (p := ⟨g5, m * 2 + 1, none⟩) (show w.heap.size ≤ g5 by omega) (.int .i64 (vs + vt))) 1
                have e3 : OwnMn (W.setCell ⟨g5, m * 2 + 1, none⟩ (.int .i64 (vs + vt))).drew w.heap.size wo.heap.size (.slice (some ⟨b3, 0, none⟩) L k3) (msOf Q) := ((hq.out.below hbw).setCell (a := ⟨g5, m * 2 + 1, none⟩) (.inr (show wo.heap.size ≤ g5 by omega)) (.int .i64 (vs + vt))).keep fun _ _ _ _ => rfl
                refine ⟨k + 1, _, by omega, rfl, by go_num, Hj.out, ?_, e3, e2, by rw [e1]; exact hsz2⟩
                rw [e1]
                show OwnMn _ _ _ _ (msOf (T0 ++ [(es, vs + vt)]))
                rw [msOf_append, msOf_one, ← HKs.out]
                exact h1.keep fun _ _ _ _ => rfl
            · go_wp2_with fail
              have g2 : ((0 : Int) < (TL : Int)) = True := eq_true (by have := Hz0.out; omega)
              have g3 : (0 < TL) = True := eq_true (by have := Hz0.out; omega)
              go_quiet (fail)
              go_wp2_with (at_builtin; go_must (refine wpList_append_Mn rfl (.tmp 142) (.tmp 147) rfl wo.heap.size wz.heap.size _ (msOf T) rfl (Hs.out.below ((Below.of_drewN wz _).alloc (Nat.le_refl _) _)) (by rw [size_alloc]; exact Nat.le_succ_of_le hsz2) _ _ (Kt, vt) rfl (cell_of_blk (heap_alloc_top _ _) (j := 0) rfl) (cell_of_blk (heap_alloc_top _ _) (j := 1) rfl) Hn1.out ?_; intro v' w' ho' hg'))
              go_roundg (L - (k + 1))
              case measure => omega
              case rel =>
                obtain ⟨r1, r2, r3, r4, r5⟩ := HGO.out _ v' w' ((Below.of_drewN wz _).alloc (Nat.le_refl _) _) hg' (by rw [HKt.out] at ho'; exact ho')
                exact ⟨k + 1, _, by omega, rfl, by go_num, r1, r2, r3, r4, r5⟩
        · have hkn : ¬ ((k : Int) < (L : Int)) := by omega
          have hT1 := hT.out
          rw [List.take_of_length_le (by rw [HQl.out]; omega)] at hT1
          have HT1 := Lib.hid (Hga.out.trans hT1)
          have Hs0 := Lib.hid (hs.out.below (below_alloc wz (.cells #[] 81)))
          have Hm1 := Lib.hid (OwnMn.made0 wz)
          have Hb3 := Lib.hid (hbz.out.trans ((below_alloc wz (.cells #[] 81)).mono (Nat.le_trans hszo hsz2)))
          obtain ⟨p5, k5, rfl, _, _, hp5⟩ := hs.out.shape
          rw [msOf_length] at Hs0 hp5 ⊢
          obtain ⟨TL, hTL⟩ : ∃ n, n = T.length := ⟨_, rfl⟩
          have hTl : TL ≤ L := by have := hT1.len; rw [HQl.out] at this; omega
          rw [← hTL] at Hs0 hp5 ⊢
          have HTL := Lib.hid hTL
          clear hT1 hT hs hq hTL
          go_wp2_with fail
          go_loopg [13, 14] TL (fun g s13 s14 wv => ∃ (j : Nat) (F : Pl), j ≤ TL ∧ g = TL - j ∧ s14 = .int .i64 (j : Int) ∧ Hid (GaOk (T.take j) F) ∧ Hid (OwnMn wv wz.heap.size wv.heap.size s13 (msOf F)) ∧ Hid (OwnMn wv wo.heap.size wz.heap.size (.slice p5 TL k5) (msOf T)) ∧ Hid (Below w.heap.size w wv) ∧ wz.heap.size ≤ wv.heap.size)
          case atStart => exact ⟨0, [], Nat.zero_le _, rfl, rfl, GaOk.nil, by have := Hm1.out; rw [← size_alloc] at this; exact this, Hs0.out, Hb3.out, by simp⟩
          case round =>
            obtain ⟨j, F, hj, rfl, rfl, hF, hf, ht, hbv, hsz3⟩ := hrel
            obtain ⟨wv, rfl⟩ : ∃ x : World, x = wr := ⟨_, rfl⟩
            by_cases hjl : j < TL
            · have hjI : (j : Int) < (TL : Int) := by omega
              obtain ⟨g5, rfl, hg5a, hg5b, _⟩ := hp5 (by omega)
              have hjT : j < T.length := by rw [← HTL.out]; exact hjl
              obtain ⟨c1, c2⟩ := cell_ms ht.out hjT
              have Hsn := Lib.hid (takeT_snoc hjT)
              obtain ⟨t, htt⟩ : ∃ t, t = T.getD j tmD := ⟨_, rfl⟩
              rw [← htt] at c1 c2 Hsn
              obtain ⟨et, vt⟩ := t
              dsimp only at c1 c2
              obtain ⟨Kt, hKt⟩ : ∃ K, K = keyN et := ⟨_, rfl⟩
              rw [← hKt] at c1
              have HKt := Lib.hid hKt
              have hFl := hF.out.len
              rw [List.length_take, ← HTL.out] at hFl
              have Hn1 := Lib.hid (show (msOf F).length + 1 ≤ 4000000000 by rw [msOf_length]; omega)
              clear htt hKt hFl
              by_cases h0 : vt = 0
              · have Hsk := Lib.hid (hF.out.skip (t := (et, vt)) h0)
                subst h0
                go_wp2_with fail
                go_roundg (TL - (j + 1))
                case measure => omega
                case rel =>
                  refine ⟨j + 1, F, by omega, rfl, by go_num, ?_, hf.out, ht.out, hbv.out, hsz3⟩
                  show GaOk _ _
                  rw [Hsn.out]; exact Hsk.out
              · have h01 : (vt == 0) = false := by simp [h0]
                go_wp2_with (at_builtin; go_must (refine wpList_append_Mn rfl (.tmp 162) (.tmp 167) rfl wz.heap.size wv.heap.size _ (msOf F) rfl (hf.out.below (below_alloc _ _)) (by rw [size_alloc]; exact Nat.le_succ_of_le hsz3) _ _ (Kt, vt) rfl (cell_of_blk (heap_alloc_top _ _) (j := 0) rfl) (cell_of_blk (heap_alloc_top _ _) (j := 1) rfl) Hn1.out ?_; intro v' w' ho' hg'))
                go_roundg (TL - (j + 1))
                case measure => omega
                case rel =>
                  have hW := below_alloc wv (.cells #[.int .i64 Kt, .int .i64 vt] 81)
                  have h1 := hW.size
                  have h2 := hg'.size
                  refine ⟨j + 1, F ++ [(et, vt)], by omega, rfl, by go_num, ?_, ?_, ?_, ?_, by omega⟩
                  · show GaOk _ _
                    rw [Hsn.out]; exact hF.out.snoc _
                  · show OwnMn _ _ _ _ _
                    rw [msOf_append, msOf_one, ← HKt.out]; exact ho'
                  · refine (ht.out.below hW).grown hg' fun k hk e => ?_
                    have := (ht.out.blocks k hk).2
                    have := (hf.out.blocks k e).1
                    omega
                  · exact hbv.out.trans ((hW.mono (by omega)).trans (grownBy_below hg' hf.out.blocks (by omega) (by omega)))
            · have hjn : ¬ ((j : Int) < (TL : Int)) := by omega
              have hF1 := hF.out
              rw [List.take_of_length_le (by rw [← HTL.out]; omega)] at hF1
              have HF1 := Lib.hid (HT1.out.trans hF1)
              clear hF1
              go_wp2_with fail
              go_ret
              exact ⟨_, rfl, F, hf.out.mono (by omega) (Nat.le_refl _), HF1.out, hbv.out⟩

end Go.Proofs.Ytllmhicmikpfeaa

namespace Go.Proofs.Ytllmhicmikpfeaa
set_option linter.all false
set_option maxRecDepth 100000
open Go.RowKit

theorem mulP_snoc {A : Pl} {i : Nat} (h : i < A.length) (B : Pl) : mulP (A.take (i + 1)) B = mulP (A.take i) B ++ B.map fun s => mulT (A.getD i tmD) s := by
  unfold mulP
  rw [takeT_snoc h, List.flatMap_append]
  simp
theorem map_snoc {B : Pl} {j : Nat} (h : j < B.length) (t : List Int × Int) : ((B.take (j + 1)).map fun s => mulT t s) = ((B.take j).map fun s => mulT t s) ++ [mulT t (B.getD j tmD)] := by
  rw [takeT_snoc h, List.map_append]
  rfl
theorem L1P_mem {P : Pl} {t : List Int × Int} (h : t ∈ P) : t.2.natAbs ≤ L1P P := by
  induction P with
  | nil => cases h
  | cons s P ih =>
    rw [L1P]
    rcases List.mem_cons.1 h with rfl | h
    · omega
    · have := ih h; omega
theorem cell_rd {w : World} {g n k : Nat} {Q : Pl} (h : RdMn w (.slice (some ⟨g, 0, none⟩) n k) (msOf Q)) {i : Nat} (hi' : i < Q.length) :
    w.cell? ⟨g, i * 2, none⟩ = some (.int .i64 (keyN (Q.getD i tmD).1)) ∧ w.cell? ⟨g, i * 2 + 1, none⟩ = some (.int .i64 (Q.getD i tmD).2) := by
  obtain ⟨p, cap, e, _, hc⟩ := h
  injection e with e1 e2 e3
  obtain ⟨b, rfl, hc2⟩ := hc (by rw [msOf_length]; omega)
  clear hc
  injection e1 with e1
  injection e1 with e1
  subst e1
  have := hc2 i (by rw [msOf_length]; exact hi')
  rw [msOf_getD hi'] at this
  exact this
theorem RdMn.ptr {w : World} {p : Option Addr} {n k : Nat} {cs : List Mn} (h : RdMn w (.slice p n k) cs) (h0 : 0 < cs.length) : ∃ g, p = some ⟨g, 0, none⟩ := by
  obtain ⟨q, cap, e, _, hc⟩ := h
  injection e with e1 _ _
  obtain ⟨b, e2, _⟩ := hc h0
  exact ⟨b, e1.trans e2⟩

theorem keepF4 {B : Nat} {A W W' : World} {a1 a2 a3 a4 : Addr} {x1 x2 x3 x4 : Value} (hb : Below B W W') (h1 : a1.block < B) (h2 : a2.block < B) (h3 : a3.block < B) (h4 : a4.block < B)
    (h : (W.cell? a1 = some x1 ∧ W.cell? a2 = some x2 ∧ W.cell? a3 = some x3 ∧ W.cell? a4 = some x4) ∧ Below B A W) : (W'.cell? a1 = some x1 ∧ W'.cell? a2 = some x2 ∧ W'.cell? a3 = some x3 ∧ W'.cell? a4 = some x4) ∧ Below B A W' :=
  ⟨⟨by rw [hb.cell h1]; exact h.1.1, by rw [hb.cell h2]; exact h.1.2.1, by rw [hb.cell h3]; exact h.1.2.2.1, by rw [hb.cell h4]; exact h.1.2.2.2⟩, h.2.trans hb⟩
theorem keepF4a {B : Nat} {A W : World} {a1 a2 a3 a4 : Addr} {x1 x2 x3 x4 : Value} (hB : B ≤ A.heap.size) (h1 : a1.block < B) (h2 : a2.block < B) (h3 : a3.block < B) (h4 : a4.block < B) (o : Obj)
    (h : (W.cell? a1 = some x1 ∧ W.cell? a2 = some x2 ∧ W.cell? a3 = some x3 ∧ W.cell? a4 = some x4) ∧ Below B A W) : ((W.alloc o).cell? a1 = some x1 ∧ (W.alloc o).cell? a2 = some x2 ∧ (W.alloc o).cell? a3 = some x3 ∧ (W.alloc o).cell? a4 = some x4) ∧ Below B A (W.alloc o) :=
  keepF4 ((below_alloc W o).mono (Nat.le_trans hB h.2.size)) h1 h2 h3 h4 h

set_option maxHeartbeats 8000000 in
theorem l2Times_any (va vb : Value) (A B : Pl) (w : World) (hA : RdMn w va (msOf A)) (hB : RdMn w vb (msOf B)) (bA : BxP B127 A) (bB : BxP B127 B) (bAB : BxP B127 (mulP A B)) (hla : A.length ≤ 1073741824) (hlb : B.length ≤ 1073741824) (hl : A.length * B.length ≤ 1073741824) (h1 : L1P A * L1P B ≤ 1000000000000000000) :
    Calls Try.prog 66 #[va, vb] w fun e w' => ∃ u P', e = .returned u ∧ OwnMn w' w.heap.size w'.heap.size u (msOf P') ∧ GaOk (mulP A B) P' ∧ Below w.heap.size w w' := by
  have HA := Lib.hid hA
  have HB := Lib.hid hB
  have BA := Lib.hid bA
  have BB := Lib.hid bB
  have BAB := Lib.hid bAB
  have H1 := Lib.hid h1
  obtain ⟨pa, ka, rfl, _, _⟩ := hA.sh
  obtain ⟨pb, kb, rfl, _, _⟩ := hB.sh
  rw [msOf_length] at HA HB ⊢
  rw [msOf_length]
  obtain ⟨LA, hLA⟩ : ∃ n, n = A.length := ⟨_, rfl⟩
  obtain ⟨LB, hLB⟩ : ∃ n, n = B.length := ⟨_, rfl⟩
  rw [← hLA] at HA hla hl ⊢
  rw [← hLB] at HB hlb hl ⊢
  obtain ⟨LN, hN, hN1, hN2⟩ := mul_named LA LB (by omega)
  rw [← hN] at hl
  have HLA := Lib.hid hLA
  have HLB := Lib.hid hLB
  have HLN := Lib.hid hN
  obtain ⟨iM, hi, hz, hsz, hby⟩ := info_partsS info_mon
  have Hi := Lib.hid hi
  have Hz := Lib.hid hz
  have Hsz := Lib.hid hsz
  have Hby := Lib.hid hby
  clear hA hB bA bB bAB h1 hLA hLB hN hi hz hsz hby
  go_enter Try.func66, Try.ntmps66
  go_wp2_with (at_make; go_must (refine wpList_make_own _ rfl _ _ 59 rfl w.heap.size 81 iM _ 2 Try.underlying59 Hi.out Hz.out Hsz.out _ _ _ LN rfl rfl rfl (by rw [Hby.out]; omega) (by unfold maxLen; omega) (Nat.le_refl _) ?_; intro w2 ho2 hg2))
  have hs2 : w.heap.size ≤ w2.heap.size := hg2.size
  have hb2 : Below w.heap.size w w2 := ⟨hg2.os, hg2.tape, hg2.output, hg2.size, fun i hi => hg2.block i hi (fun e => by cases e)⟩
  have Hn2 := Lib.hid (show OwnMn w2 w.heap.size w2.heap.size (.slice (some ⟨w.heap.size, 0, none⟩) 0 LN) (msOf []) from Own.of_row ho2)
  have Hb2 := Lib.hid hb2
  clear ho2 hg2 hb2 Hi Hz Hsz Hby hN1 hN2
  go_loopg [5, 6] LA (fun g s5 s6 wz => ∃ (i : Nat), i ≤ LA ∧ g = LA - i ∧ s6 = .int .i64 (i : Int) ∧ Hid (OwnMn wz w.heap.size wz.heap.size s5 (msOf (mulP (A.take i) B))) ∧ Hid (Below w.heap.size w wz))
  case atStart => exact ⟨0, Nat.zero_le _, rfl, rfl, Hn2.out, Hb2.out⟩
  case round =>
    obtain ⟨i, hi, rfl, rfl, hn, hbz⟩ := hrel
    obtain ⟨wz, rfl⟩ : ∃ x : World, x = wr := ⟨_, rfl⟩
    by_cases hil : i < LA
    · have hiI : (i : Int) < (LA : Int) := by omega
      have hiA : i < A.length := by rw [← HLA.out]; exact hil
      obtain ⟨ga, rfl⟩ := HA.out.ptr (by rw [msOf_length]; omega)
      have Hsn := Lib.hid (mulP_snoc hiA B)
      have Hti := Lib.hid (getD_tm hiA)
      have hci := cell_rd HA.out hiA
      obtain ⟨ti, hti⟩ : ∃ t, t = A.getD i tmD := ⟨_, rfl⟩
      rw [← hti] at hci Hsn Hti
      have Hci := Lib.hid hci
      have hli : i * LB + LB ≤ LN := by
        rw [HLN.out, ← Nat.succ_mul]
        exact Nat.mul_le_mul_right _ hil
      have Hli := Lib.hid hli
      have hlm : (mulP (A.take i) B).length = i * LB := by rw [mulP_len, List.length_take, ← HLA.out, ← HLB.out, Nat.min_eq_left hi]
      have Hlm := Lib.hid hlm
      clear hti hci hli hlm
      go_wp2_with fail
      go_loopg [5, 7] LB (fun g s5 s7 wv => ∃ (j : Nat), j ≤ LB ∧ g = LB - j ∧ s7 = .int .i64 (j : Int) ∧ Hid (OwnMn wv w.heap.size wv.heap.size s5 (msOf (mulP (A.take i) B ++ (B.take j).map fun s => mulT ti s))) ∧ Hid (Below w.heap.size w wv))
      case atStart => exact ⟨0, Nat.zero_le _, rfl, rfl, by have := hn.out; simpa [Hid] using this, hbz.out⟩
      case round =>
        obtain ⟨j, hj, rfl, rfl, hf, hbv⟩ := hrel
        obtain ⟨wv, rfl⟩ : ∃ x : World, x = wr := ⟨_, rfl⟩
        have hsv := hbv.out.size
        by_cases hjl : j < LB
        · have hjI : (j : Int) < (LB : Int) := by omega
          have hjB : j < B.length := by rw [← HLB.out]; exact hjl
          obtain ⟨gb, rfl⟩ := HB.out.ptr (by rw [msOf_length]; omega)
          have Hmn := Lib.hid (map_snoc hjB ti)
          have Htj := Lib.hid (getD_tm hjB)
          obtain ⟨ci1, ci2⟩ := Hci.out
          have ci1 := cell_below hbv.out ci1
          have ci2 := cell_below hbv.out ci2
          obtain ⟨cj1, cj2⟩ := cell_rd HB.out hjB
          have cj1 := cell_below hbv.out cj1
          have cj2 := cell_below hbv.out cj2
          obtain ⟨tj, htj⟩ : ∃ t, t = B.getD j tmD := ⟨_, rfl⟩
          rw [← htj] at cj1 cj2 Hmn Htj
          have hk1 := keyN_rng (BA.out _ Hti.out)
          have hk2 := keyN_rng (BB.out _ Htj.out)
          have hka := keyN_add (BA.out _ Hti.out).1 (BB.out _ Htj.out).1
          have hv := Nat.le_trans (Nat.mul_le_mul (L1P_mem Hti.out) (L1P_mem Htj.out)) H1.out
          rw [← Int.natAbs_mul] at hv
          have hmt : mulT ti tj = (addE ti.1 tj.1, ti.2 * tj.2) := rfl
          obtain ⟨Ki, hKi⟩ : ∃ K, K = keyN ti.1 := ⟨_, rfl⟩
          obtain ⟨Kj, hKj⟩ : ∃ K, K = keyN tj.1 := ⟨_, rfl⟩
          obtain ⟨vi, hvi⟩ : ∃ K, K = ti.2 := ⟨_, rfl⟩
          obtain ⟨vj, hvj⟩ : ∃ K, K = tj.2 := ⟨_, rfl⟩
          rw [← hKi] at ci1 hk1 hka
          rw [← hKj] at cj1 hk2 hka
          rw [← hvi] at ci2 hv hmt
          rw [← hvj] at cj2 hv hmt
          have Hw1 := Lib.hid (show IntKind.i64.wrap (Ki + Kj) = Ki + Kj from k64 (by omega) (by omega))
          have Hw2 := Lib.hid (show IntKind.i64.wrap (vi * vj) = vi * vj from k64 (by omega) (by omega))
          have Hka := Lib.hid hka
          have Hmt := Lib.hid hmt
          obtain ⟨p5, k5, rfl, _, _, _⟩ := hf.out.shape
          have hlen : (msOf (mulP (A.take i) B ++ (B.take j).map fun s => mulT ti s)).length = i * LB + j := by
            rw [msOf_length, List.length_append, Hlm.out, List.length_map, List.length_take, ← HLB.out, Nat.min_eq_left hj]
          obtain ⟨NL, hNL⟩ : ∃ n, n = i * LB + j := ⟨_, rfl⟩
          have hNb : NL + 1 ≤ 4000000000 := by have := Hli.out; omega
          have Hf := Lib.hid hf.out
          rw [hlen, ← hNL] at Hf ⊢
          have Hn1 := Lib.hid (show (msOf (mulP (A.take i) B ++ (B.take j).map fun s => mulT ti s)).length + 1 ≤ 4000000000 by rw [hlen, ← hNL]; exact hNb)
          clear htj hk1 hk2 hka hv hmt hKi hKj hvi hvj hlen hNL hNb hf
          have hga : ga < w.heap.size := World.block_lt_of_cell? w _ Hci.out.1
          have hgb : gb < w.heap.size := World.block_lt_of_cell? w _ (cell_rd HB.out hjB).1
          go_wp2_with fail
          have f1 := Hw1.out
          have f2 := Hw2.out
          go_region_held3 (fun w' => (w'.cell? ⟨ga, i * 2, none⟩ = some (.int .i64 Ki) ∧ w'.cell? ⟨ga, i * 2 + 1, none⟩ = some (.int .i64 vi) ∧ w'.cell? ⟨gb, j * 2, none⟩ = some (.int .i64 Kj) ∧ w'.cell? ⟨gb, j * 2 + 1, none⟩ = some (.int .i64 vj)) ∧ Below w.heap.size wv w')
            (first | with_reducible assumption | exact ⟨⟨ci1, ci2, cj1, cj2⟩, (Below.refl _ _).drew⟩ | exact keepF4a hsv hga hga hgb hgb _ (by assumption) | exact keepF4 hb6 hga hga hgb hgb (by assumption))
            (first | (refine step_append_Mn rfl (.tmp 26) (.tmp 50) rfl w.heap.size wv.heap.size _ (msOf (mulP (A.take i) B ++ (B.take j).map fun s => mulT ti s)) rfl (Hf.out.below ((Below.refl _ _).drew.alloc (Nat.le_refl _) _)) (by show _ ≤ (World.alloc wv _).heap.size; rw [size_alloc]; exact Nat.le_succ_of_le hsv) _ _ (Ki + Kj, vi * vj) rfl (cell_of_blk (heap_alloc_top _ _) (j := 0) rfl) (cell_of_blk (heap_alloc_top _ _) (j := 1) rfl) Hn1.out ?_; intro v' w' ho' hg'; have hb6 := grownBy_below hg' Hf.out.blocks (Nat.le_refl _) (by show _ ≤ (World.alloc wv _).heap.size; rw [size_alloc]; exact Nat.le_succ_of_le hsv)))
          all_goals clear f1 f2
          go_wp2_with fail
          go_roundg (LB - (j + 1))
          case measure => omega
          case rel =>
            have hb7 : Below w.heap.size w w' := hbv.out.trans (Below.trans (((Below.refl wv.heap.size wv).alloc (Nat.le_refl _) _).drew.mono hsv) hb6)
            refine ⟨j + 1, by omega, rfl, by go_num, ?_, hb7⟩
            show OwnMn _ _ _ _ _
            rw [Hmn.out, ← List.append_assoc, msOf_append, msOf_one, Hmt.out]
            rw [← Hka.out] at ho'
            exact ho'
        · have hjn : ¬ ((j : Int) < (LB : Int)) := by omega
          have hf2 := hf.out
          rw [List.take_of_length_le (l := B) (by rw [← HLB.out]; omega), ← Hsn.out] at hf2
          have Hf2 := Lib.hid hf2
          clear hf2 hf
          go_wp2_with fail
          go_roundg (LA - (i + 1))
          case measure => omega
          case rel => exact ⟨i + 1, by omega, rfl, by go_num, Hf2.out, hbv.out⟩
    · have hin : ¬ ((i : Int) < (LA : Int)) := by omega
      have hn2 := hn.out
      rw [List.take_of_length_le (by rw [← HLA.out]; omega)] at hn2
      have hG := l2Gather_any u5 (mulP A B) wz hn2.rd BAB.out (by rw [mulP_len, ← HLA.out, ← HLB.out, ← HLN.out]; exact hl) (by rw [L1P_mulP]; exact H1.out)
      have HG := Lib.hid hG
      obtain ⟨p5, k5, rfl, _, _, _⟩ := hn2.shape
      have hszz := hbz.out.size
      clear hn2 hn hG
      go_wp2_with fail
      refine HG.out.mono ?_
      rintro e w3 ⟨u, P', rfl, ho3, hg3, hb3⟩
      have Ho3 := Lib.hid (ho3.mono hszz (Nat.le_refl _))
      have Hg3 := Lib.hid hg3
      have Hb3 := Lib.hid (hbz.out.trans (hb3.mono hszz))
      obtain ⟨p6, k6, rfl, _, _, _⟩ := ho3.shape
      clear ho3 hg3 hb3
      go_wp2_with fail
      go_ret
      exact ⟨_, P', rfl, Ho3.out, Hg3.out, Hb3.out⟩

end Go.Proofs.Ytllmhicmikpfeaa
