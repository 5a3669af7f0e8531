/-
  What the puzzles add up to, as the program makes it. Plain.
  slices.Insert of one element of two cells, on a slice that the call made.
  The search among parts; summed: a number added to a shape's count.
  The draws: the cursor over the bytes, a number below another one.
-/
import Derived.Test.YtnpghgpejnlebaaGreatJ18
import Derived.Test.YtnpghgpejnlebaaGreatJ3
import Derived.Laws.CopyRow
import Derived.Lib.Overlaps
import Derived.Lib.AppendZerosOnto
import Derived.Lib.AppendZeros
import Derived.Laws.Externs
import Derived.Deep.RegionLaw
import Derived.Test.YtnpghgpejnlebaaGreatJ15
import Derived.Test.YtnpghgpejnlebaaGreatJ11
import Derived.Test.YtnpghgpejnlebaaGreatJ1
import Derived.Test.YtnpghgpejnlebaaGreatJ2
namespace Go.Proofs.YtnpghgpejnlebaaGreat
set_option linter.all false
set_option maxRecDepth 100000
open Go.RowKit

def pzK (n : Nat) (p : Puz) : List Int := strSh (thirdL n p)
def finL (n : Nat) (ys : List Int) (ps : List Puz) (cs : List Cls) : List Cls := ps.foldl (fun cs p => sumdL (pzK n p) (wtI n ys p) cs) cs
def keysF (n : Nat) (ps : List Puz) (ks : List (List Int)) : List (List Int) := ps.foldl (fun ks p => insK (pzK n p) ks) ks
def wsF (n : Nat) (ys : List Int) (s : List Int) (ps : List Puz) (x : Int) : Int := ps.foldl (fun x p => if pzK n p = s then x + wtI n ys p else x) x
theorem finL_append (n : Nat) (ys : List Int) (ps qs : List Puz) (cs : List Cls) : finL n ys (ps ++ qs) cs = finL n ys qs (finL n ys ps cs) := List.foldl_append
theorem fin_keys (n : Nat) (ys : List Int) : ∀ (ps : List Puz) (ks : List (List Int)) (f : List Int → Int), ks.Pairwise (fun a b => ltB a b = true) → (∀ t, t ∉ ks → f t = 0) →
    finL n ys ps (ks.map fun t => (t, f t)) = (keysF n ps ks).map fun t => (t, wsF n ys t ps (f t))
  | [], ks, f, _, _ => rfl
  | p :: ps, ks, f, hp, h0 => by
    have hs := sumd_keys (pzK n p) (wtI n ys p) f ks hp (h0 _)
    show finL n ys ps (sumdL (pzK n p) (wtI n ys p) (ks.map fun t => (t, f t))) = _
    rw [hs]
    have := fin_keys n ys ps (insK (pzK n p) ks) (fun t => if t = pzK n p then f t + wtI n ys p else f t) (insK_asc _ _ hp) fun t ht => by
      rw [insK_mem] at ht
      rw [if_neg fun e => ht (.inl e)]
      exact h0 t fun hm => ht (.inr hm)
    rw [this]
    show ((keysF n ps (insK (pzK n p) ks)).map _) = (keysF n ps (insK (pzK n p) ks)).map _
    refine List.map_congr_left fun t _ => ?_
    show (t, wsF n ys t ps _) = (t, wsF n ys t ps (if pzK n p = t then f t + wtI n ys p else f t))
    congr 2
    by_cases e : t = pzK n p
    · rw [if_pos e, if_pos e.symm]
    · rw [if_neg e, if_neg fun c => e c.symm]
theorem fin_nil (n : Nat) (ys : List Int) (ps : List Puz) : finL n ys ps [] = (keysF n ps []).map fun t => (t, wsI n ys t ps) := by
  have := fin_keys n ys ps [] (fun _ => 0) List.Pairwise.nil fun _ _ => rfl
  exact this
theorem keysF_asc (n : Nat) : ∀ (ps : List Puz) (ks : List (List Int)), ks.Pairwise (fun a b => ltB a b = true) → (keysF n ps ks).Pairwise fun a b => ltB a b = true
  | [], ks, h => h
  | p :: ps, ks, h => keysF_asc n ps _ (insK_asc _ _ h)
theorem keysF_mem (n : Nat) (s : List Int) : ∀ (ps : List Puz) (ks : List (List Int)), s ∈ keysF n ps ks ↔ s ∈ ks ∨ ∃ p ∈ ps, pzK n p = s
  | [], ks => by simp [keysF]
  | p :: ps, ks => by
    have := keysF_mem n s ps (insK (pzK n p) ks)
    show s ∈ keysF n ps (insK (pzK n p) ks) ↔ _
    rw [this, insK_mem]
    constructor
    · rintro ((h | h) | ⟨q, h1, h2⟩)
      · exact .inr ⟨p, List.mem_cons_self, h.symm⟩
      · exact .inl h
      · exact .inr ⟨q, List.mem_cons_of_mem _ h1, h2⟩
    · rintro (h | ⟨q, h1, h2⟩)
      · exact .inl (.inr h)
      · rcases List.mem_cons.1 h1 with rfl | h1
        · exact .inl (.inl h2.symm)
        · exact .inr ⟨q, h1, h2⟩
theorem wsF_none (n : Nat) (ys s : List Int) : ∀ (ps : List Puz) (x : Int), (∀ p ∈ ps, pzK n p ≠ s) → wsF n ys s ps x = x
  | [], _, _ => rfl
  | p :: ps, x, h => by
    show wsF n ys s ps (if pzK n p = s then x + wtI n ys p else x) = x
    rw [if_neg (h p List.mem_cons_self)]
    exact wsF_none n ys s ps x fun q hq => h q (List.mem_cons_of_mem _ hq)

/-! ### bounds -/
def wC : Int := 3570467226624
theorem wt_bnd (n : Nat) (ys : List Int) (p : Puz) (hy : ∀ i, -9 ≤ ys.getD i 0 ∧ ys.getD i 0 ≤ 9) : ∀ (l : List (Nat × Nat)) (x B : Int), -B ≤ x ∧ x ≤ B →
    -(B * 18 ^ l.length) ≤ l.foldl (fun x c => if p.B.getD (atN c.1 c.2) 0 = 3 then x * (ys.getD (c.2 + n - 1 - c.1) 0 - ys.getD c.2 0) else x) x ∧ l.foldl (fun x c => if p.B.getD (atN c.1 c.2) 0 = 3 then x * (ys.getD (c.2 + n - 1 - c.1) 0 - ys.getD c.2 0) else x) x ≤ B * 18 ^ l.length
  | [], x, B, h => by simpa using h
  | c :: l, x, B, h => by
    rw [List.foldl_cons, List.length_cons, Int.pow_succ, Int.mul_comm _ 18, ← Int.mul_assoc]
    refine wt_bnd n ys p hy l _ (B * 18) ?_
    split
    · have a := hy (c.2 + n - 1 - c.1)
      have b := hy c.2
      obtain ⟨d, hd⟩ : ∃ d, d = ys.getD (c.2 + n - 1 - c.1) 0 - ys.getD c.2 0 := ⟨_, rfl⟩
      rw [← hd]
      have h1 : (x * d).natAbs ≤ (B * 18).natAbs := by
        rw [Int.natAbs_mul, Int.natAbs_mul]
        exact Nat.mul_le_mul (by omega) (by omega)
      omega
    · omega
theorem cells_len : ∀ n : Fin 5, (cellsL n.val).length ≤ 10 := by decide
theorem pow18 : ∀ k : Fin 11, (18 : Int) ^ k.val ≤ wC := by decide
theorem wtI_bnd {n : Nat} (h4 : n ≤ 4) {ys : List Int} (hy : ∀ i, -9 ≤ ys.getD i 0 ∧ ys.getD i 0 ≤ 9) (p : Puz) : -wC ≤ wtI n ys p ∧ wtI n ys p ≤ wC := by
  have h := wt_bnd n ys p hy (cellsL n) 1 1 (by omega)
  have h3 := cells_len ⟨n, by omega⟩
  dsimp only at h3
  have h2 := pow18 ⟨(cellsL n).length, by omega⟩
  unfold wtI
  dsimp only at h2
  rw [Int.one_mul] at h
  omega
/-- so many parts, of so great numbers -/
def BdP (cs : List Cls) (m : Nat) : Prop := cs.length ≤ m ∧ ∀ x ∈ cs, -((m : Int) * wC) ≤ x.2 ∧ x.2 ≤ (m : Int) * wC
theorem BdP.step {cs : List Cls} {m : Nat} (h : BdP cs m) (s : List Int) {c : Int} (hc : -wC ≤ c ∧ c ≤ wC) : BdP (sumdL s c cs) (m + 1) := by
  have hm : ((m + 1 : Nat) : Int) * wC = (m : Int) * wC + wC := by rw [Int.natCast_add, Int.add_mul]; simp
  have h0 : 0 ≤ (m : Int) * wC := Int.mul_nonneg (by omega) (by decide)
  have hw : 0 ≤ wC := by decide
  have key : ∀ cs : List Cls, (∀ x ∈ cs, -((m : Int) * wC) ≤ x.2 ∧ x.2 ≤ (m : Int) * wC) → (sumdL s c cs).length ≤ cs.length + 1 ∧ ∀ x ∈ sumdL s c cs, -(((m + 1 : Nat) : Int) * wC) ≤ x.2 ∧ x.2 ≤ ((m + 1 : Nat) : Int) * wC := by
    intro cs
    induction cs with
    | nil =>
      intro _
      refine ⟨Nat.le_refl _, fun x hx => ?_⟩
      unfold sumdL at hx
      rw [List.mem_singleton] at hx
      subst hx
      dsimp only
      omega
    | cons y l ih =>
      intro hl
      obtain ⟨i1, i2⟩ := ih fun x hx => hl x (List.mem_cons_of_mem _ hx)
      have hy := hl y List.mem_cons_self
      have hl' : ∀ x ∈ l, -(((m + 1 : Nat) : Int) * wC) ≤ x.2 ∧ x.2 ≤ ((m + 1 : Nat) : Int) * wC := fun x hx => by have := hl x (List.mem_cons_of_mem _ hx); omega
      unfold sumdL
      split
      · refine ⟨by simp; omega, fun x hx => ?_⟩
        rcases List.mem_cons.1 hx with rfl | hx
        · omega
        · exact i2 x hx
      · split
        · refine ⟨by simp, fun x hx => ?_⟩
          rcases List.mem_cons.1 hx with rfl | hx
          · dsimp only; omega
          · exact hl' x hx
        · refine ⟨by simp, fun x hx => ?_⟩
          rcases List.mem_cons.1 hx with rfl | hx
          · dsimp only; omega
          · rcases List.mem_cons.1 hx with rfl | hx
            · omega
            · exact hl' x hx
  obtain ⟨k1, k2⟩ := key cs h.2
  exact ⟨by have := h.1; omega, k2⟩
theorem BdP.get {cs : List Cls} {m : Nat} (h : BdP cs m) (hm : m ≤ 1000) : ∀ k, k < cs.length → -100000000000000000 ≤ (cs.getD k clD).2 ∧ (cs.getD k clD).2 ≤ 100000000000000000 := fun k hk => by
  have hx : cs.getD k clD ∈ cs := by rw [List.getD_eq_getElem?_getD, List.getElem?_eq_getElem hk]; exact List.getElem_mem hk
  have := h.2 _ hx
  have h1 : (m : Int) * wC ≤ 1000 * wC := Int.mul_le_mul_of_nonneg_right (by omega) (by decide)
  have h2 : 1000 * wC = 3570467226624000 := by decide
  omega
theorem sumdL_asc (s : List Int) (c : Int) {cs : List Cls} (h : AscP cs) : AscP (sumdL s c cs) := by
  have key : ∀ cs : List Cls, AscP cs → AscP (sumdL s c cs) ∧ ∀ x ∈ sumdL s c cs, x.1 = s ∨ ∃ y ∈ cs, x.1 = y.1 := by
    intro cs
    induction cs with
    | nil => intro _; exact ⟨List.pairwise_singleton _ _, fun x hx => by unfold sumdL at hx; rw [List.mem_singleton] at hx; exact .inl (by rw [hx])⟩
    | cons y l ih =>
      intro h
      obtain ⟨h1, h2⟩ := List.pairwise_cons.1 h
      obtain ⟨i1, i2⟩ := ih h2
      unfold sumdL
      cases e : ltB y.1 s with
      | true =>
        rw [if_pos rfl]
        refine ⟨List.pairwise_cons.2 ⟨fun x hx => ?_, i1⟩, fun x hx => ?_⟩
        · rcases i2 x hx with h | ⟨z, hz, h⟩
          · rw [h]; exact e
          · rw [h]; exact h1 z hz
        · rcases List.mem_cons.1 hx with rfl | hx
          · exact .inr ⟨x, List.mem_cons_self, rfl⟩
          · exact (i2 x hx).imp id fun ⟨z, hz, h⟩ => ⟨z, List.mem_cons_of_mem _ hz, h⟩
      | false =>
        simp only [Bool.false_eq_true, if_false]
        by_cases e2 : y.1 = s
        · rw [if_pos e2]
          refine ⟨List.pairwise_cons.2 ⟨fun x hx => by rw [← e2]; exact h1 x hx, h2⟩, fun x hx => ?_⟩
          rcases List.mem_cons.1 hx with rfl | hx
          · exact .inl rfl
          · exact .inr ⟨x, List.mem_cons_of_mem _ hx, rfl⟩
        · rw [if_neg e2]
          have e3 := lt_or y.1 s e e2
          refine ⟨List.pairwise_cons.2 ⟨fun x hx => ?_, h⟩, fun x hx => ?_⟩
          · rcases List.mem_cons.1 hx with rfl | hx
            · exact e3
            · exact ltB_trans _ _ _ e3 (h1 x hx)
          · rcases List.mem_cons.1 hx with rfl | hx
            · exact .inl rfl
            · exact .inr ⟨x, hx, rfl⟩
  exact (key cs h).1
theorem finL_asc (n : Nat) (ys : List Int) : ∀ (ps : List Puz) (cs : List Cls), AscP cs → AscP (finL n ys ps cs)
  | [], _, h => h
  | p :: ps, cs, h => finL_asc n ys ps _ (sumdL_asc _ _ h)
theorem finL_bd {n : Nat} (h4 : n ≤ 4) {ys : List Int} (hy : ∀ i, -9 ≤ ys.getD i 0 ∧ ys.getD i 0 ≤ 9) : ∀ (ps : List Puz) (cs : List Cls) (m : Nat), BdP cs m → BdP (finL n ys ps cs) (m + ps.length)
  | [], _, _, h => h
  | p :: ps, cs, m, h => by
    have := finL_bd h4 hy ps _ _ (h.step (pzK n p) (wtI_bnd h4 hy p))
    rw [List.length_cons, show m + (ps.length + 1) = m + 1 + ps.length by omega]
    exact this

/-! ### what all puzzles have in common -/
def lab (l : List Int) : Bool := l.all fun x => decide (0 ≤ x) && decide (x ≤ 3)
def rightB (n : Nat) (p : Puz) : Bool :=
  (List.range n).all fun r => decide (p.L.getD (atN r 0) 0 ≤ 1) && decide (p.R.getD (atN r r) 0 ≤ 1) && decide (p.B.getD (atN (n - 1) r) 0 ≤ 1) &&
    (List.range (r + 1)).all fun k => decide ((p.L.getD (atN r k) 0, p.R.getD (atN r k) 0, p.B.getD (atN r k) 0) ∈ triL) &&
      (!decide (k < r) || decide ((p.L.getD (atN r (k + 1)) 0, p.R.getD (atN r k) 0, p.B.getD (atN (r - 1) k) 0) ∈ triL))
def pzB (n : Nat) (p : Puz) : Bool := decide (p.L.length = n * (n + 1) / 2) && decide (p.R.length = n * (n + 1) / 2) && decide (p.B.length = n * (n + 1) / 2) && rightB n p && strOk (thirdL n p)
def puzB (n k : Nat) : Bool := (ishs k (n - k)).all fun a => (ishs k (n - k)).all fun b =>
  let ps := puzL n (gsL a k n) (gsL b k n)
  decide (ps.length ≤ 900) && ps.all (pzB n) && decide (keysF n ps [] = (ishs k (n - k)).filter fun s => decide (s ∈ keysF n ps []))
theorem puz_dec : ∀ n : Fin 4, ((List.range (n.val + 2)).all fun k => puzB (n.val + 1) k) = true := by decide +kernel
section
variable {n k : Nat} {a b : List Int}
theorem puz_at (h1 : 1 ≤ n) (h4 : n ≤ 4) (hk : k ≤ n) (ha : a ∈ ishs k (n - k)) (hb : b ∈ ishs k (n - k)) :
    (puzL n (gsL a k n) (gsL b k n)).length ≤ 900 ∧ (∀ p ∈ puzL n (gsL a k n) (gsL b k n), pzB n p = true) ∧
      keysF n (puzL n (gsL a k n) (gsL b k n)) [] = (ishs k (n - k)).filter fun s => decide (s ∈ keysF n (puzL n (gsL a k n) (gsL b k n)) []) := by
  have := puz_dec ⟨n - 1, by omega⟩
  rw [show (⟨n - 1, by omega⟩ : Fin 4).val + 1 = n by simp; omega, show (⟨n - 1, by omega⟩ : Fin 4).val + 2 = n + 1 by simp; omega] at this
  rw [List.all_eq_true] at this
  have := this k (List.mem_range.2 (by omega))
  unfold puzB at this
  rw [List.all_eq_true] at this
  have := this a ha
  rw [List.all_eq_true] at this
  have := this b hb
  simp only [Bool.and_eq_true, decide_eq_true_eq, List.all_eq_true] at this
  exact ⟨this.1.1, this.1.2, this.2⟩
/-- what is left of the sum is what the weights are -/
theorem fin_wtP (h1 : 1 ≤ n) (h4 : n ≤ 4) (hk : k ≤ n) (ys : List Int) (ha : a ∈ ishs k (n - k)) (hb : b ∈ ishs k (n - k)) :
    (finL n ys (puzL n (gsL a k n) (gsL b k n)) []).filter (fun x => !decide (x.2 = 0)) = wtP n k ys a b := by
  obtain ⟨_, _, hK⟩ := puz_at h1 h4 hk ha hb
  rw [fin_nil]
  obtain ⟨ps, hps⟩ : ∃ ps, ps = puzL n (gsL a k n) (gsL b k n) := ⟨_, rfl⟩
  unfold wtP wsN
  rw [← hps] at hK ⊢
  rw [hK, List.filter_map, List.filter_filter]
  congr 1
  refine List.filter_congr fun s hs => ?_
  show (!decide (wsI n ys s ps = 0) && decide (s ∈ keysF n ps [])) = _
  by_cases hm : s ∈ keysF n ps []
  · rw [decide_eq_true hm, Bool.and_true]
  · rw [decide_eq_false hm, Bool.and_false]
    have : wsI n ys s ps = 0 := wsF_none n ys s ps 0 fun p hp e => hm ((keysF_mem n s ps []).2 (.inr ⟨p, hp, e⟩))
    rw [this]
    rfl
end

end Go.Proofs.YtnpghgpejnlebaaGreat

namespace Go.Proofs.YtnpghgpejnlebaaGreat
set_option linter.all false
set_option maxRecDepth 100000
open Go.RowKit

section
variable {P : Program}
/-- copy of elements of any size into a row -/
theorem run_copy_z (w : World) (dT sT ty elem : TypeId) (g o dLen dCap : Nat) (a : Addr) (sLen sCap z k : Nat) (cur : Array Value) (t : TypeId) (cs : List Value)
    (hu : P.underlying dT = some (.slice elem)) (hs : (P.info? elem).map (·.size) = some z)
    (hg : w.heap[g]? = some (.cells cur t (0, 0))) (hk : k = Nat.min sLen dLen) (hn : cs.length = k * z)
    (hsrc : ∀ j v, cs[j]? = some v → w.cell? (a.add j) = some v) (hfit : o + cs.length ≤ cur.size) (h1 : ∀ v ∈ cs, v.oneCell' = true) :
    (Builtin.copy_ #[dT, sT] ty #[.slice (some ⟨g, o, none⟩) dLen dCap, .slice (some a) sLen sCap]).run P w =
      .ok (goInt k) (w.setRow g (cur.toList.take o ++ cs ++ cur.toList.drop (o + cs.length)).toArray) := by
  have hl := run_loadCells_list (P := P) w a cs hsrc
  have hst := run_storeCells_at P g o t cs 0 cur w hg (by simpa using hfit) h1
  cases hq : P.info? elem with
  | none => simp [hq] at hs
  | some i =>
    have hi : i.size = z := by simpa [hq] using hs
    rw [hn] at hl
    simp [Builtin.copy_, run_underlying hu, Builtin.lenOf, Builtin.firstCells, sizeOf, typeInfo, hq, hi, ← hk, hl, hst]
theorem wpList_copy_z {w : World} {ops : Array Oper} {rest : List Oper} {o : Oper} {a : Act} {Q : Exit → Act → World → Prop} (hgd : o.guard = none) (d s : Operand) (t t' : TypeId)
    (ho : o.op = .call { callee := .builtin .copy, args := #[d, s], argTypes := #[t, t'] }) (v u : Value) (hd : a.eval d = v) (hs : a.eval s = u) {v' : Value} {w' : World}
    (hr : (Builtin.copy_ #[t, t'] o.type #[v, u]).run P w = .ok v' w') (h : wpList P ops Q rest (a.put o.dst v') w') : wpList P ops Q (o :: rest) a w := by
  refine wpList_plain hgd fun K hK' => ?_
  unfold Oper.wp
  simp [execOp, ho, resolve, invoke, builtin, hd, hs, hr, Result.andThen]
  exact hK' _ _ h
theorem step_copy_z {w : World} {ops : Array Oper} {o : Oper} {a : Act} {K : Act → World → Prop} {Q : Exit → Act → World → Prop} {E : Prop} (hgd : o.guard = none) (d s : Operand) (t t' : TypeId)
    (ho : o.op = .call { callee := .builtin .copy, args := #[d, s], argTypes := #[t, t'] }) (v u : Value) (hd : a.eval d = v) (hs : a.eval s = u) {v' : Value} {w' : World}
    (hr : (Builtin.copy_ #[t, t'] o.type #[v, u]).run P w = .ok v' w') (h : K (a.put o.dst v') w') : if Region.wanted o (yielded ops a.tmps) = true then Oper.wp P o a w K Q else E := by
  have hw : Region.wanted o (yielded ops a.tmps) = true := by simp [Region.wanted, hgd]
  rw [if_pos hw]
  unfold Oper.wp
  simp [execOp, ho, resolve, invoke, builtin, hd, hs, hr, Result.andThen]
  exact h
end

/-- the cells with two more put in at element i -/
def insV (xs : List Value) (i : Nat) (a b : Value) : List Value := xs.take (i * 2) ++ [a, b] ++ xs.drop (i * 2)
theorem insV_len {xs : List Value} {n i : Nat} (h : xs.length = n * 2) (hi : i ≤ n) (a b : Value) : (insV xs i a b).length = (n + 1) * 2 := by
  unfold insV
  simp only [List.length_append, List.length_take, List.length_drop, List.length_cons, List.length_nil, h]
  omega
theorem info_prtI : (Tryz.prog.info? 63).map (fun i => (i.zero, i.size, i.bytes)) = some (some (.agg #[.slice none 0 0, .int .i64 0]), 2, 32) := by kernel_rfl

set_option maxHeartbeats 4000000 in
/-- behind the last element -/
theorem insert_end (v : Value) (n lo hi vb vc : Nat) (xs : List Value) (a b : Value) (w : World) (ho : Own w lo hi 63 2 v n xs) (hlo : lo ≤ w.heap.size) (hn : n ≤ 1000000)
    (h0 : w.cell? ⟨vb, 0, none⟩ = some a) (h1 : w.cell? ⟨vb, 1, none⟩ = some b) (o0 : a.oneCell' = true) (o1 : b.oneCell' = true) :
    Calls Tryz.prog 45 #[v, .int .i64 (n : Int), .slice (some ⟨vb, 0, none⟩) 1 vc] w fun e w' =>
      ∃ u, e = .returned u ∧ Own w' lo w'.heap.size 63 2 u (n + 1) (insV xs n a b) ∧ w.grownBy w' v.ownBlock := by
  obtain ⟨i, hi', hz, hsz, hby⟩ := info_partsS info_prtI
  have Hi := Lib.hid hi'
  have Hz := Lib.hid hz
  have Hsz := Lib.hid hsz
  have Hby := Lib.hid hby
  have Ho := Lib.hid ho
  have hxl := ho.len
  have Hxl := Lib.hid hxl
  obtain ⟨p, cap, rfl, hnc, hcm⟩ : ∃ p cap, v = .slice p n cap ∧ n ≤ cap ∧ cap ≤ maxLen := by
    rcases ho.1.2 with ⟨rfl, rfl⟩ | ⟨g, cap, cur, rfl, _, _, h1, h2, _⟩
    · exact ⟨none, 0, rfl, Nat.le_refl _, Nat.zero_le _⟩
    · exact ⟨_, cap, rfl, h1, h2⟩
  have hpn : p = none → n = 0 ∧ cap = 0 := fun e => by
    subst e
    rcases ho.1.2 with ⟨e, rfl⟩ | ⟨g, cap', cur, e, _⟩
    · injection e with _ _ e; exact ⟨rfl, e⟩
    · injection e with e; cases e
  have hnn : ((n : Int) == (n : Int)) = true := by simp
  have hn0 : (n : Int) ≤ (n : Int) := Int.le_refl _
  have Hnews := Lib.hid (show ∀ (j : Nat) (u : Value), [a, b][j]? = some u → w.cell? ((⟨vb, 0, none⟩ : Addr).add j) = some u from fun j u hj => by
    have hadd : (⟨vb, 0, none⟩ : Addr).add j = ⟨vb, 0 + j, none⟩ := by unfold Addr.add; split <;> simp_all
    rw [hadd, Nat.zero_add]
    match j, hj with
    | 0, hj => simp at hj; subst hj; exact h0
    | 1, hj => simp at hj; subst hj; exact h1
    | j + 2, hj => simp at hj)
  have Hone := Lib.hid (show ∀ u ∈ [a, b], u.oneCell' = true from fun u hu => by
    simp only [List.mem_cons, List.not_mem_nil, or_false] at hu
    rcases hu with rfl | rfl
    · exact o0
    · exact o1)
  have Hb1 := Lib.hid (show n + 1 ≤ maxLen by unfold maxLen; omega)
  have Hb2 := Lib.hid (show (n + 1) * 32 ≤ 140737488355328 by omega)
  have Hins := Lib.hid (show xs ++ [a, b] = insV xs n a b by
    unfold insV
    rw [List.take_of_length_le (by omega), List.drop_eq_nil_of_le (by omega), List.append_nil])
  have Hx := Lib.hid (show ∀ v' w', w'.ownsRow lo 63 2 v' (n + 1) (xs ++ [a, b]) → Own w' lo w'.heap.size 63 2 v' (n + 1) (insV xs n a b) from fun v' w' h => by rw [← Hins.out]; exact Own.of_row h)
  unfold maxLen at hcm
  clear hi' hz hsz hby ho h0 h1 o0 o1 hxl
  cases p with
  | none =>
    obtain ⟨rfl, rfl⟩ := hpn rfl
    go_enter Tryz.func45, Tryz.ntmps45
    go_wp2_with (at_builtin; go_must (refine wpList_append_own _ rfl (.tmp 23) (.tmp 24) 27 rfl lo 63 i _ 2 32 Tryz.underlying27 Hi.out Hz.out Hsz.out Hby.out rfl (by omega) _ 0 xs rfl Ho.out.1 ⟨vb, 0, none⟩ 1 vc [a, b] rfl rfl Hnews.out Hone.out Hb1.out Hb2.out hlo ?_; intro v' w' h2 h3 _))
    go_ret
    exact ⟨_, rfl, Hx.out _ _ h2, h3⟩
  | some g =>
    clear hpn
    go_enter Tryz.func45, Tryz.ntmps45
    go_wp2_with (at_builtin; go_must (refine wpList_append_own _ rfl (.tmp 23) (.tmp 24) 27 rfl lo 63 i _ 2 32 Tryz.underlying27 Hi.out Hz.out Hsz.out Hby.out rfl (by omega) _ n xs rfl Ho.out.1 ⟨vb, 0, none⟩ 1 vc [a, b] rfl rfl Hnews.out Hone.out Hb1.out Hb2.out hlo ?_; intro v' w' h2 h3 _))
    all_goals
      go_ret
      exact ⟨_, rfl, Hx.out _ _ h2, h3⟩

theorem shape_of {w : World} {g : Nat} {cur : Array Value} {t : TypeId} {fr : Nat × Nat} (h : w.heap[g]? = some (.cells cur t fr)) : w.shape? g = some (t, cur.size) := by
  simp [World.shape?, h]
theorem frz_of {w : World} {g : Nat} {cur : Array Value} {t : TypeId} (h : w.heap[g]? = some (.cells cur t (0, 0))) (j : Nat) : w.frozen? ⟨g, j, none⟩ = false := free_of_blk h j
theorem addr_add (g o j : Nat) : (⟨g, o, none⟩ : Addr).add j = ⟨g, o + j, none⟩ := by unfold Addr.add; split <;> simp_all

set_option maxHeartbeats 8000000 in
/-- there is room: in place -/
theorem insert_room (n lo hi g cap i vb vc : Nat) (xs : List Value) (a b : Value) (w : World) (ho : Own w lo hi 63 2 (.slice (some ⟨g, 0, none⟩) n cap) n xs) (hi' : i < n) (hroom : n + 1 ≤ cap) (hn : n ≤ 1000000)
    (hvb : w.heap[vb]? = some (.cells #[a, b] 63 (0, 0))) (hne : vb ≠ g) (ox : ∀ u ∈ xs, u.oneCell' = true) (o0 : a.oneCell' = true) (o1 : b.oneCell' = true) :
    Calls Tryz.prog 45 #[.slice (some ⟨g, 0, none⟩) n cap, .int .i64 (i : Int), .slice (some ⟨vb, 0, none⟩) 1 vc] w fun e w' =>
      ∃ u, e = .returned u ∧ Own w' lo w'.heap.size 63 2 u (n + 1) (insV xs i a b) ∧ w.grownBy w' (some g) := by
  obtain ⟨iM, hiM, hz, hsz, hby⟩ := info_partsS info_prtI
  have hs2 : (Tryz.prog.info? 63).map (·.size) = some 2 := by rw [hiM]; simp [hsz]
  have hxl := ho.len
  obtain ⟨cur, hlg, hg, hcm, hcs, htake⟩ : ∃ cur, lo ≤ g ∧ w.heap[g]? = some (.cells cur 63 (0, 0)) ∧ cap ≤ maxLen ∧ cur.size = cap * 2 ∧ cur.toList.take (n * 2) = xs := by
    rcases ho.1.2 with ⟨e, _⟩ | ⟨g', cap', cur, e, q1, q2, _, q4, q5, q6⟩
    · injection e with e; cases e
    · injection e with e1 _ e3
      injection e1 with e1
      injection e1 with e1
      subst e1 e3
      exact ⟨cur, q1, q2, q4, q5, q6⟩
  have hgw : g < w.heap.size := (ho.1.lt g rfl).2
  unfold maxLen at hcm
  -- the first copy
  have hcl : cur.toList.length = cap * 2 := by simpa using hcs
  obtain ⟨c1, hc1⟩ : ∃ c1 : List Value, c1 = cur.toList.take ((i + 1) * 2) ++ xs.drop (i * 2) ++ cur.toList.drop ((i + 1) * 2 + (n - i) * 2) := ⟨_, rfl⟩
  have hdl : (xs.drop (i * 2)).length = (n - i) * 2 := by rw [List.length_drop, hxl]; omega
  have hcp1 : ∀ ty dc sc, (Builtin.copy_ #[27, 27] ty #[.slice (some ⟨g, (i + 1) * 2, none⟩) (n + 1 - (i + 1)) dc, .slice (some ⟨g, i * 2, none⟩) (n + 1 - i) sc]).run Tryz.prog w.drew = .ok (goInt ((n - i : Nat) : Int)) (w.drew.setRow g c1.toArray) := fun ty dc sc => by
    have h := run_copy_z (P := Tryz.prog) w.drew 27 27 ty 63 g ((i + 1) * 2) (n + 1 - (i + 1)) dc ⟨g, i * 2, none⟩ (n + 1 - i) sc 2 (n - i) cur 63 (xs.drop (i * 2)) Tryz.underlying27 hs2 hg
      (by simp only [Nat.min_def]; split <;> omega) hdl (fun j u hj => by
        rw [addr_add]
        rw [List.getElem?_drop, ← htake, List.getElem?_take] at hj
        split at hj
        · refine cell_of_blk (w := w.drew) hg ?_
          rw [← hj]; simp
        · cases hj) (by rw [hdl, hcs]; omega) (fun u hu => ox u (List.mem_of_mem_drop hu))
    rw [hdl, ← hc1] at h
    exact h
  have hc1l : c1.length = cap * 2 := by
    rw [hc1]
    simp only [List.length_append, List.length_take, List.length_drop, hcl, hxl]
    omega
  have hg1 : (w.drew.setRow g c1.toArray).heap[g]? = some (.cells c1.toArray 63 (0, 0)) := setRow_heap w.drew g cur _ _ _ hg
  -- the second one
  obtain ⟨c2, hc2⟩ : ∃ c2 : List Value, c2 = c1.take (i * 2) ++ [a, b] ++ c1.drop (i * 2 + 2) := ⟨_, rfl⟩
  have hcp2 : ∀ (W : World), W.heap = (w.drew.setRow g c1.toArray).heap → ∀ ty dc, (Builtin.copy_ #[27, 27] ty #[.slice (some ⟨g, i * 2, none⟩) (n + 1 - i) dc, .slice (some ⟨vb, 0, none⟩) 1 vc]).run Tryz.prog W = .ok (goInt 1) (W.setRow g c2.toArray) := fun W hW ty dc => by
    have hvb1 : W.heap[vb]? = some (.cells #[a, b] 63 (0, 0)) := by rw [hW, setRow_other _ _ _ _ hne]; exact hvb
    have h := run_copy_z (P := Tryz.prog) W 27 27 ty 63 g (i * 2) (n + 1 - i) dc ⟨vb, 0, none⟩ 1 vc 2 1 c1.toArray 63 [a, b] Tryz.underlying27 hs2 (by rw [hW]; exact hg1)
      (by simp only [Nat.min_def]; split <;> omega) rfl (fun j u hj => by
        rw [addr_add, Nat.zero_add]
        refine cell_of_blk hvb1 ?_
        rw [← hj]; simp) (by rw [List.size_toArray, hc1l]; simp; omega) (fun u hu => by
        simp only [List.mem_cons, List.not_mem_nil, or_false] at hu
        rcases hu with rfl | rfl
        · exact o0
        · exact o1)
    change _ = Result.ok (goInt 1) (W.setRow g (List.take (i * 2) c1 ++ [a, b] ++ List.drop (i * 2 + 2) c1).toArray) at h
    rw [← hc2] at h
    exact h
  have hres : ∀ (W : World), W.heap = (w.drew.setRow g c1.toArray).heap → (W.setRow g c2.toArray).heap[g]? = some (.cells c2.toArray 63 (0, 0)) := fun W hW => setRow_heap W g c1.toArray _ _ _ (by rw [hW]; exact hg1)
  have hc2l : c2.length = cap * 2 := by
    rw [hc2]
    simp only [List.length_append, List.length_take, List.length_drop, hc1l, List.length_cons, List.length_nil]
    omega
  have htk : c2.take ((n + 1) * 2) = insV xs i a b := by
    have e1 : c1.take (i * 2) = xs.take (i * 2) := by
      rw [hc1, List.append_assoc, List.take_append_of_le_length (by rw [List.length_take, hcl]; omega), List.take_take, ← htake, List.take_take]
      congr 1
      omega
    have e2 : c1.drop (i * 2 + 2) = xs.drop (i * 2) ++ cur.toList.drop ((i + 1) * 2 + (n - i) * 2) := by
      rw [hc1, List.append_assoc]
      exact List.drop_left' (by rw [List.length_take, hcl]; omega)
    rw [hc2, e1, e2]
    unfold insV
    rw [← List.append_assoc]
    exact List.take_left' (by simp only [List.length_append, List.length_take, List.length_cons, List.length_nil, hdl, hxl]; omega)
  have hov : ∀ lb cb, (callFunc 62 #[.slice (some ⟨vb, 0, none⟩) 1 vc, .slice (some ⟨g, (i + 1) * 2, none⟩) lb cb]).run Tryz.prog w = .ok (.value (.bool false)) w := fun lb cb => by
    rw [run_callFunc_extern Tryz.func62 (by kernel_rfl) (by kernel_rfl) (by kernel_rfl) (e := Extern.SlicesOverlaps.overlaps #[27, 27] #[4]) (by kernel_rfl),
      Lib.run_overlaps_apart w 27 4 63 Tryz.underlying27 2 (fun w => by kernel_rfl) ⟨vb, 0, none⟩ ⟨g, (i + 1) * 2, none⟩ 1 vc lb cb hne _ _ _ _ (shape_of hvb) (shape_of hg) (by omega) (frz_of hvb 0) (frz_of hvb _)]
    rfl
  have HC1 := Lib.hid hcp1
  have HC2 := Lib.hid hcp2
  have HR := Lib.hid hres
  have HT := Lib.hid htk
  have Hc2l := Lib.hid hc2l
  have Hhg := Lib.hid hg
  have hz2 : ¬ ((i : Int) = (n : Int)) := by omega
  have hz3 : ((i : Int) == (n : Int)) = false := by simp; omega
  have hcr : ¬ ((cap : Int) < (n : Int) + 1) := by omega
  have hw1 : IntKind.i64.wrap ((i : Int) + 1) = (i : Int) + 1 := k64 (by omega) (by omega)
  have htn : ((i : Int) + 1).toNat = i + 1 := by omega
  have hb1 : (0 : Int) ≤ (i : Int) + 1 := by omega
  have hb2 : ¬ (cap = i + 1) := by omega
  have hb4 : ¬ (cap = i) := by omega
  have hin : (i : Int) ≤ (n : Int) := by omega
  have hin2 : (i : Int) ≤ (n : Int) + 1 := by omega
  have hnt : ((n : Int) + 1).toNat = n + 1 := by omega
  have hnc : (n : Int) + 1 ≤ (cap : Int) := by omega
  clear ho hiM hz hsz hby hs2 hxl hg htake hcl hc1 hdl hcp1 hc1l hg1 hc2 hcp2 hres hc2l htk ox o0 o1 hvb hcs
  go_enter Tryz.func45, Tryz.ntmps45
  go_wp2_with (simp only [hov])
  go_region_law (refine step_copy_z rfl (.tmp 73) (.tmp 76) 27 27 rfl (.slice (some ⟨g, (i + 1) * 2, none⟩) (n + 1 - (i + 1)) (cap - (i + 1))) (.slice (some ⟨g, i * 2, none⟩) (n + 1 - i) (cap - i)) (by simp [Act.eval, Act.put]) (by simp [Act.eval, Act.put]) (HC1.out _ _ _) ?_)
  go_wp2_with fail
  rw [HC2.out _ rfl]
  go_wp2_with fail
  go_ret
  have h1 := HR.out (w.drew.setRow g c1.toArray) rfl
  have hsz : ((w.drew.setRow g c1.toArray).setRow g c2.toArray).heap.size = w.heap.size := by simp [World.setRow]
  have ho2 : Own ((w.drew.setRow g c1.toArray).setRow g c2.toArray) lo ((w.drew.setRow g c1.toArray).setRow g c2.toArray).heap.size 63 2 (.slice (some ⟨g, 0, none⟩) (n + 1) cap) (n + 1) (insV xs i a b) := by
    refine Own.of_row ⟨?_, .inr ⟨g, cap, c2.toArray, rfl, hlg, h1, hroom, by unfold maxLen; omega, ?_, ?_⟩⟩
    · rw [← HT.out, List.length_take, Hc2l.out]; omega
    · simpa using Hc2l.out
    · exact HT.out
  refine ⟨_, rfl, ho2, ?_⟩
  refine ⟨rfl, rfl, rfl, by rw [hsz]; exact Nat.le_refl _, fun k hk hne => ?_⟩
  have hkg : k ≠ g := fun e => hne (by rw [e])
  rw [setRow_other _ _ _ _ hkg, setRow_other _ _ _ _ hkg]
  rfl

set_option maxHeartbeats 8000000 in
/-- there is no room: a new row -/
theorem insert_grow (n lo hi g cap i vb vc : Nat) (xs : List Value) (a b : Value) (w : World) (ho : Own w lo hi 63 2 (.slice (some ⟨g, 0, none⟩) n cap) n xs) (hi' : i < n) (hroom : cap < n + 1) (hn : n ≤ 1000000) (hlo : lo ≤ w.heap.size)
    (hvb : w.heap[vb]? = some (.cells #[a, b] 63 (0, 0))) (ox : ∀ u ∈ xs, u.oneCell' = true) (o0 : a.oneCell' = true) (o1 : b.oneCell' = true) :
    Calls Tryz.prog 45 #[.slice (some ⟨g, 0, none⟩) n cap, .int .i64 (i : Int), .slice (some ⟨vb, 0, none⟩) 1 vc] w fun e w' =>
      ∃ u, e = .returned u ∧ Own w' lo w'.heap.size 63 2 u (n + 1) (insV xs i a b) ∧ w.grownBy w' (some g) := by
  obtain ⟨iM, hiM, hz, hsz, hby⟩ := info_partsS info_prtI
  have hs2 : (Tryz.prog.info? 63).map (·.size) = some 2 := by rw [hiM]; simp [hsz]
  have hxl := ho.len
  obtain ⟨cur, hg, hnc, hcs, htake⟩ : ∃ cur, w.heap[g]? = some (.cells cur 63 (0, 0)) ∧ n ≤ cap ∧ cur.size = cap * 2 ∧ cur.toList.take (n * 2) = xs := by
    rcases ho.1.2 with ⟨e, _⟩ | ⟨g', cap', cur, e, q1, q2, q3, q4, q5, q6⟩
    · injection e with e; cases e
    · injection e with e1 _ e3
      injection e1 with e1
      injection e1 with e1
      subst e1 e3
      exact ⟨cur, q2, q3, q5, q6⟩
  have hgw : g < w.heap.size := (ho.1.lt g rfl).2
  have hvw : vb < w.heap.size := by
    rcases Nat.lt_or_ge vb w.heap.size with h | h
    · exact h
    · rw [Array.getElem?_eq_none h] at hvb; cases hvb
  obtain rfl : cap = n := by omega
  have hsrc : ∀ j u, xs[j]? = some u → w.cell? ⟨g, j, none⟩ = some u := fun j u hj => by
    rw [← htake, List.getElem?_take] at hj
    split at hj
    · refine cell_of_blk hg ?_
      rw [← hj]; simp
    · cases hj
  obtain ⟨z, hzd⟩ : ∃ z : Value, z = .agg #[.slice none 0 0, .int .i64 0] := ⟨_, rfl⟩
  have hzs : z.cells.size = 2 := by rw [hzd]; rfl
  rw [← hzd] at hz
  have hold : (Builtin.firstCells iM.size i (.slice (some ⟨g, 0, none⟩) i cap)).run Tryz.prog w.drew = .ok (xs.take (i * 2)).toArray w.drew := by
    rw [hsz]
    exact run_firstCells_some w.drew 2 i ⟨g, 0, none⟩ i cap (xs.take (i * 2)) (by rw [List.length_take, hxl]; omega) (fun j u hj => by
      rw [addr_add, Nat.zero_add]
      rw [List.getElem?_take] at hj
      split at hj
      · exact hsrc j u hj
      · cases hj)
  have hik : i + (cap + 1 - i) = cap + 1 := by omega
  have hkk : (cap : Int) + 1 - (i : Int) = ((cap + 1 - i : Nat) : Int) := by omega
  obtain ⟨G, hG⟩ : ∃ G, G = grownCap w (cap + 1) cap 63 := ⟨_, rfl⟩
  obtain ⟨ROW, hROW⟩ : ∃ ROW : Array Value, ROW = (xs.take (i * 2)).toArray ++ Builtin.zeroCells z.cells (cap + 1 - i) ++ Builtin.zeroCells z.cells (G - (cap + 1)) := ⟨_, rfl⟩
  have hrz : ∀ ty, (Builtin.append_ #[27, 3] ty #[.slice (some ⟨g, 0, none⟩) i cap, .int .i64 ((cap : Int) + 1 - (i : Int))]).run Tryz.prog w =
      .ok (.slice (some ⟨w.heap.size, 0, none⟩) (cap + 1) G) (w.drew.alloc (.cells ROW 63)) := fun ty => by
    have h := Lib.run_append_grow_zeros (P := Tryz.prog) w 27 3 ty 63 iM z .i64 .i64 Tryz.underlying27 Tryz.underlying3 hiM hz (some ⟨g, 0, none⟩) i cap (xs.take (i * 2)) hold (cap + 1 - i) (by omega) (by omega) (by omega) (by omega) (by rw [hby]; omega) (by rw [hby, hik]; exact growslice_fits (by omega) (by omega))
    rw [hik, ← hG, ← hROW] at h
    rw [hkk]
    exact h
  have hGn : cap + 1 ≤ G := by rw [hG]; exact grownCap_ge w _ _ _
  have hGm : G ≤ 9223372036854775807 := by
    have := grownCap_le_maxLen w (cap + 1) cap 63 (by unfold maxLen; omega)
    rw [← hG] at this
    unfold maxLen at this
    omega
  have hRs : ROW.size = G * 2 := by
    rw [hROW]
    simp only [Array.size_append, List.size_toArray, List.length_take, hxl, size_zeroCells, hzs]
    omega
  have hRt : ROW.toList.take (i * 2) = xs.take (i * 2) := by
    rw [hROW]
    simp only [Array.toList_append, List.append_assoc]
    exact List.take_left' (by simp only [List.length_take, hxl]; omega)
  have hdl : (xs.drop (i * 2)).length = (cap - i) * 2 := by rw [List.length_drop, hxl]; omega
  obtain ⟨W1, hW1⟩ : ∃ W1, W1 = w.drew.alloc (.cells ROW 63) := ⟨_, rfl⟩
  have hg1 : W1.heap[w.heap.size]? = some (.cells ROW 63 (0, 0)) := by rw [hW1]; exact heap_alloc_top w.drew _
  have hold1 : ∀ k, k < w.heap.size → W1.heap[k]? = w.heap[k]? := fun k hk => by rw [hW1]; exact heap_alloc_low w.drew _ hk
  obtain ⟨c1, hc1⟩ : ∃ c1 : List Value, c1 = ROW.toList.take (i * 2) ++ [a, b] ++ ROW.toList.drop (i * 2 + 2) := ⟨_, rfl⟩
  have hRl : ROW.toList.length = G * 2 := by simpa using hRs
  have hc1l : c1.length = G * 2 := by
    rw [hc1]
    simp only [List.length_append, List.length_take, List.length_drop, hRl, List.length_cons, List.length_nil]
    omega
  have hcpA : ∀ (W : World), W.heap = W1.heap → ∀ ty dc, (Builtin.copy_ #[27, 27] ty #[.slice (some ⟨w.heap.size, i * 2, none⟩) (cap + 1 - i) dc, .slice (some ⟨vb, 0, none⟩) 1 vc]).run Tryz.prog W = .ok (goInt 1) (W.setRow w.heap.size c1.toArray) := fun W hW ty dc => by
    have hvb1 : W.heap[vb]? = some (.cells #[a, b] 63 (0, 0)) := by rw [hW, hold1 vb hvw]; exact hvb
    have h := run_copy_z (P := Tryz.prog) W 27 27 ty 63 w.heap.size (i * 2) (cap + 1 - i) dc ⟨vb, 0, none⟩ 1 vc 2 1 ROW 63 [a, b] Tryz.underlying27 hs2 (by rw [hW]; exact hg1)
      (by simp only [Nat.min_def]; split <;> omega) rfl (fun j u hj => by
        rw [addr_add, Nat.zero_add]
        refine cell_of_blk hvb1 ?_
        rw [← hj]; simp) (by rw [hRs]; simp; omega) (fun u hu => by
        simp only [List.mem_cons, List.not_mem_nil, or_false] at hu
        rcases hu with rfl | rfl
        · exact o0
        · exact o1)
    change _ = Result.ok (goInt 1) (W.setRow w.heap.size (List.take (i * 2) ROW.toList ++ [a, b] ++ List.drop (i * 2 + 2) ROW.toList).toArray) at h
    rw [← hc1] at h
    exact h
  have hg2 : (W1.setRow w.heap.size c1.toArray).heap[w.heap.size]? = some (.cells c1.toArray 63 (0, 0)) := setRow_heap W1 _ ROW _ _ _ hg1
  obtain ⟨c2, hc2⟩ : ∃ c2 : List Value, c2 = c1.take ((i + 1) * 2) ++ xs.drop (i * 2) ++ c1.drop ((i + 1) * 2 + (cap - i) * 2) := ⟨_, rfl⟩
  have hcpB : ∀ (W : World), W.heap = (W1.setRow w.heap.size c1.toArray).heap → ∀ ty dc sc, (Builtin.copy_ #[27, 27] ty #[.slice (some ⟨w.heap.size, (i + 1) * 2, none⟩) (cap + 1 - (i + 1)) dc, .slice (some ⟨g, i * 2, none⟩) (cap - i) sc]).run Tryz.prog W = .ok (goInt ((cap - i : Nat) : Int)) (W.setRow w.heap.size c2.toArray) := fun W hW ty dc sc => by
    have hgW : W.heap[g]? = some (.cells cur 63 (0, 0)) := by rw [hW, setRow_other _ _ _ _ (by omega), hold1 g hgw]; exact hg
    have h := run_copy_z (P := Tryz.prog) W 27 27 ty 63 w.heap.size ((i + 1) * 2) (cap + 1 - (i + 1)) dc ⟨g, i * 2, none⟩ (cap - i) sc 2 (cap - i) c1.toArray 63 (xs.drop (i * 2)) Tryz.underlying27 hs2 (by rw [hW]; exact hg2)
      (by simp only [Nat.min_def]; split <;> omega) hdl (fun j u hj => by
        rw [addr_add]
        rw [List.getElem?_drop, ← htake, List.getElem?_take] at hj
        split at hj
        · refine cell_of_blk hgW ?_
          rw [← hj]; simp
        · cases hj) (by rw [List.size_toArray, hc1l, hdl]; omega) (fun u hu => ox u (List.mem_of_mem_drop hu))
    rw [hdl] at h
    change _ = Result.ok (goInt ((cap - i : Nat) : Int)) (W.setRow w.heap.size (List.take ((i + 1) * 2) c1 ++ List.drop (i * 2) xs ++ List.drop ((i + 1) * 2 + (cap - i) * 2) c1).toArray) at h
    rw [← hc2] at h
    exact h
  have hc2l : c2.length = G * 2 := by
    rw [hc2]
    simp only [List.length_append, List.length_take, List.length_drop, hc1l, hxl]
    omega
  have htk : c2.take ((cap + 1) * 2) = insV xs i a b := by
    have e1 : c1.take ((i + 1) * 2) = xs.take (i * 2) ++ [a, b] := by
      rw [hc1, hRt]
      exact List.take_left' (by simp only [List.length_append, List.length_take, List.length_cons, List.length_nil, hxl]; omega)
    rw [hc2, e1]
    unfold insV
    exact List.take_left' (by simp only [List.length_append, List.length_take, List.length_cons, List.length_nil, hdl, hxl]; omega)
  have HZ := Lib.hid hrz
  have HA := Lib.hid hcpA
  have HB := Lib.hid hcpB
  have HW1 := Lib.hid hW1
  have HT := Lib.hid htk
  have Hc2l := Lib.hid hc2l
  have Hg2 := Lib.hid hg2
  have Hold := Lib.hid hold1
  have hz2 : ¬ ((i : Int) = (cap : Int)) := by omega
  have hz3 : ((i : Int) == (cap : Int)) = false := by simp; omega
  have hcr : (cap : Int) < (cap : Int) + 1 := by omega
  have hw1 : IntKind.i64.wrap ((i : Int) + 1) = (i : Int) + 1 := k64 (by omega) (by omega)
  have htn : ((i : Int) + 1).toNat = i + 1 := by omega
  have hb1 : (0 : Int) ≤ (i : Int) + 1 := by omega
  have hb2 : ¬ (G = i + 1) := by omega
  have hb3 : ¬ (G = i) := by omega
  have hb4 : ¬ (cap = i) := by omega
  have hin : (i : Int) ≤ (cap : Int) := by omega
  have hin2 : (i : Int) + 1 ≤ (cap : Int) + 1 := by omega
  clear ho hiM hz hsz hby hs2 hxl hg htake hc1 hdl hrz hcpA hcpB hc1l hg1 hg2 hc2 hc2l htk ox o0 o1 hvb hcs hsrc hzs hold hRs hRt hRl hik hkk hold1 hG hROW hzd hW1
  go_enter Tryz.func45, Tryz.ntmps45
  go_wp2_with (at_builtin; go_must (refine Lib.wpList_append_run _ rfl (.tmp 34) (.tmp 39) 27 3 rfl _ _ rfl rfl _ _ (HZ.out _) ?_))
  rw [HA.out _ (by rw [HW1.out]; rfl)]
  go_wp2_with fail
  go_region_law (refine step_copy_z rfl (.tmp 50) (.tmp 53) 27 27 rfl (.slice (some ⟨w.heap.size, (i + 1) * 2, none⟩) (cap + 1 - (i + 1)) (G - (i + 1))) (.slice (some ⟨g, i * 2, none⟩) (cap - i) (cap - i)) (by simp [Act.eval, Act.put]) (by simp [Act.eval, Act.put]) (HB.out _ (by rw [HW1.out]; rfl) _ _ _) ?_)
  go_wp2_with fail
  go_ret
  obtain ⟨W2, hW2⟩ : ∃ W2, W2 = ((w.alloc (.cells ROW 63)).drew.setRow w.heap.size c1.toArray).drew := ⟨_, rfl⟩
  rw [← hW2]
  have hW2h : W2.heap = (W1.setRow w.heap.size c1.toArray).heap := by rw [hW2, HW1.out]; rfl
  have h1 : (W2.setRow w.heap.size c2.toArray).heap[w.heap.size]? = some (.cells c2.toArray 63 (0, 0)) := setRow_heap W2 _ c1.toArray _ _ _ (by rw [hW2h]; exact Hg2.out)
  have hsz : (W2.setRow w.heap.size c2.toArray).heap.size = w.heap.size + 1 := by
    have e : (W2.setRow w.heap.size c2.toArray).heap.size = W2.heap.size := by simp [World.setRow]
    rw [e, hW2h, HW1.out]
    simp [World.setRow]
  have ho2 : Own (W2.setRow w.heap.size c2.toArray) lo (W2.setRow w.heap.size c2.toArray).heap.size 63 2 (.slice (some ⟨w.heap.size, 0, none⟩) (cap + 1) G) (cap + 1) (insV xs i a b) := by
    refine Own.of_row ⟨?_, .inr ⟨w.heap.size, G, c2.toArray, rfl, hlo, h1, hGn, by unfold maxLen; omega, ?_, ?_⟩⟩
    · rw [← HT.out, List.length_take, Hc2l.out]; omega
    · simpa using Hc2l.out
    · exact HT.out
  refine ⟨_, rfl, ho2, ?_⟩
  refine ⟨by rw [hW2]; rfl, by rw [hW2]; rfl, by rw [hW2]; rfl, by rw [hsz]; omega, fun k hk _ => ?_⟩
  rw [setRow_other _ _ _ _ (by omega), hW2h, setRow_other _ _ _ _ (by omega)]
  exact Hold.out k hk

/-- one element put in, wherever -/
theorem insert_any (v : Value) (n lo hi i vb vc : Nat) (xs : List Value) (a b : Value) (w : World) (ho : Own w lo hi 63 2 v n xs) (hi' : i ≤ n) (hn : n ≤ 1000000) (hlo : lo ≤ w.heap.size)
    (hvb : w.heap[vb]? = some (.cells #[a, b] 63 (0, 0))) (hne : v.ownBlock ≠ some vb) (ox : ∀ u ∈ xs, u.oneCell' = true) (o0 : a.oneCell' = true) (o1 : b.oneCell' = true) :
    Calls Tryz.prog 45 #[v, .int .i64 (i : Int), .slice (some ⟨vb, 0, none⟩) 1 vc] w fun e w' =>
      ∃ u, e = .returned u ∧ Own w' lo w'.heap.size 63 2 u (n + 1) (insV xs i a b) ∧ w.grownBy w' v.ownBlock := by
  by_cases hin : i = n
  · subst hin
    exact insert_end v i lo hi vb vc xs a b w ho hlo hn (cell_of_blk hvb (j := 0) rfl) (cell_of_blk hvb (j := 1) rfl) o0 o1
  · rcases ho.1.2 with ⟨_, e⟩ | ⟨g, cap, cur, e, _⟩
    · omega
    · subst e
      have hne2 : vb ≠ g := fun e => hne (by rw [e]; rfl)
      by_cases hc : n + 1 ≤ cap
      · exact insert_room n lo hi g cap i vb vc xs a b w ho (by omega) hc hn hvb hne2 ox o0 o1
      · exact insert_grow n lo hi g cap i vb vc xs a b w ho (by omega) (by omega) hn hlo hvb ox o0 o1

end Go.Proofs.YtnpghgpejnlebaaGreat

namespace Go.Proofs.YtnpghgpejnlebaaGreat
set_option linter.all false
set_option maxRecDepth 100000
open Go.RowKit

set_option maxHeartbeats 2000000 in
theorem summed1_any (z s : Value) (c : Int) (xs ys : List Int) (w : World) (hz : Ints w z xs) (hs : Ints w s ys) :
    Calls Tryz.prog 43 #[.agg #[z, .int .i64 c], s] w fun e w' => e = .returned (.int .i64 (cmpB xs ys)) ∧ Below w.heap.size w w' := by
  have Hz := Lib.hid hz
  have Hs := Lib.hid hs
  obtain ⟨p, cap, rfl, _, _⟩ := hz
  obtain ⟨q, cap2, rfl, _, _⟩ := hs
  have c0 : (w.alloc (.cells #[.slice p xs.length cap, .int .i64 c] 63)).cell? ⟨w.heap.size, 0, none⟩ = some (.slice p xs.length cap) := cell_of_blk (heap_alloc_top _ _) (j := 0) rfl
  obtain ⟨nx, hnx⟩ : ∃ n, n = xs.length := ⟨_, rfl⟩
  obtain ⟨ny, hny⟩ : ∃ n, n = ys.length := ⟨_, rfl⟩
  rw [← hnx] at c0 Hz ⊢
  rw [← hny] at Hs ⊢
  clear hnx hny
  go_enter Tryz.func43, Tryz.ntmps43
  go_wp2_with fail
  refine (compare_any _ _ xs ys _ (Hz.out.below (below_alloc w _)) (Hs.out.below (below_alloc w _))).mono ?_
  rintro e w' ⟨rfl, rfl⟩
  go_wp2_with fail
  go_ret
  exact ⟨rfl, below_alloc w _⟩

set_option maxHeartbeats 4000000 in
theorem searchP_any (v u : Value) (cs : List Cls) (t : List Int) (k : Nat) (w : World) (h : RdCl w v cs) (hu : Ints w u t) (hl : cs.length ≤ 1000) (hk : k ≤ cs.length)
    (ho : ∀ a, a < cs.length → ltB (cs.getD a clD).1 t = decide (a < k)) :
    Calls Tryz.prog 42 #[v, u, .func (.func 43) #[] #[]] w fun e w' =>
      e = .returned (.tuple #[.int .i64 (k : Int), .bool (decide (k < cs.length ∧ cmpB (cs.getD k clD).1 t = 0))]) ∧ Below w.heap.size w w' := by
  obtain ⟨f, h1, hf⟩ := h
  obtain ⟨p, cap, rfl, ⟨hx1, hx⟩, hxc⟩ := h1.two
  unfold maxLen at hx
  obtain ⟨n, hn⟩ : ∃ n, n = cs.length := ⟨_, rfl⟩
  rw [← hn] at hx1 hxc hf hk ho hl ⊢
  have Hc := Lib.hid hxc
  have Hf := Lib.hid hf
  have Ho := Lib.hid ho
  have Hu := Lib.hid hu
  obtain ⟨pu, ku, rfl, _, _⟩ := hu
  obtain ⟨nt, hnt⟩ : ∃ n, n = t.length := ⟨_, rfl⟩
  rw [← hnt] at Hu ⊢
  clear h1 hxc hf ho hn hnt
  go_enter Tryz.func42, Tryz.ntmps42
  go_wp2_with fail
  go_loopg [9, 10, 11] n (fun g s9 s10 s11 wr => ∃ i j : Nat, i ≤ k ∧ k ≤ j ∧ j ≤ n ∧ g = j - i ∧ s9 = .int .i64 (i : Int) ∧ s10 = .int .i64 (j : Int) ∧ Hid (Below w.heap.size w wr))
  case atStart => exact ⟨0, n, Nat.zero_le _, hk, Nat.le_refl _, rfl, rfl, rfl, Below.refl _ _⟩
  case round =>
    obtain ⟨i, j, hik, hkj, hjn, rfl, rfl, rfl, hb⟩ := hrel
    obtain ⟨wo, rfl⟩ : ∃ x : World, x = wr := ⟨_, rfl⟩
    by_cases hij : i < j
    · have hiji : (i : Int) < (j : Int) := by omega
      obtain ⟨m, hm⟩ : ∃ m : Nat, m = (i + j) / 2 := ⟨_, rfl⟩
      have hmn : m < n := by omega
      have hmi : (m : Int) < (n : Int) := by omega
      obtain ⟨bx, rfl, hcc⟩ := Hc.out (by omega)
      obtain ⟨d1, d2⟩ := hcc m hmn
      have d1 := cell_below hb.out d1
      have d2 := cell_below hb.out d2
      have Hm := Lib.hid hm
      have HS := Lib.hid (summed1_any (f m) (.slice pu nt ku) (cs.getD m clD).2 (cs.getD m clD).1 t wo ((Hf.out m hmn).below hb.out) (Hu.out.below hb.out))
      have hsh := (Hf.out m hmn)
      obtain ⟨pz, kz, ez, _, _⟩ := hsh
      obtain ⟨c0, hc0⟩ : ∃ c, c = (cs.getD m clD).2 := ⟨_, rfl⟩
      obtain ⟨nz, hnz⟩ : ∃ c, c = (cs.getD m clD).1.length := ⟨_, rfl⟩
      obtain ⟨c, hcm⟩ : ∃ c, c = cmpB (cs.getD m clD).1 t := ⟨_, rfl⟩
      have hcl : c < 0 ↔ m < k := by
        have h1 := cmpB_lt (cs.getD m clD).1 t
        rw [← hcm, Ho.out m hmn] at h1
        by_cases h2 : m < k
        · simp [h2] at h1
          exact ⟨fun _ => h2, fun _ => h1⟩
        · simp [h2] at h1
          exact ⟨fun h => absurd h (by omega), fun h => absurd h h2⟩
      rw [← hnz] at ez
      rw [ez, ← hc0, ← hcm] at HS
      rw [ez] at d1
      rw [← hc0] at d2
      rw [hm] at d1 d2
      have hmi2 : ((i : Int) + (j : Int)) / 2 < (n : Int) := by omega
      clear hm hcc hc0 hnz hcm ez
      go_wp2_with fail
      refine HS.out.mono ?_
      rintro e w' ⟨rfl, hb'⟩
      have Hb' := Lib.hid (hb.out.trans (hb'.mono hb.out.size))
      clear hb' HS
      by_cases h2 : m < k
      · have h3 : c < 0 := hcl.2 h2
        go_wp2_with fail
        go_roundg (j - (m + 1))
        case measure => have := Hm.out; omega
        case rel => exact ⟨m + 1, j, by have := Hm.out; omega, hkj, hjn, rfl, by have := Hm.out; go_num, rfl, Hb'.out⟩
      · have h3 : ¬ c < 0 := fun h => h2 (hcl.1 h)
        go_wp2_with fail
        go_roundg (m - i)
        case measure => have := Hm.out; omega
        case rel => exact ⟨i, m, hik, by omega, by have := Hm.out; omega, rfl, rfl, by have := Hm.out; congr 1; omega, Hb'.out⟩
    · have hiji : ¬ (i : Int) < (j : Int) := by omega
      obtain rfl : i = k := by omega
      by_cases hin : i < n
      · have hini : (i : Int) < (n : Int) := by omega
        obtain ⟨bx, rfl, hcc⟩ := Hc.out (by omega)
        obtain ⟨d1, d2⟩ := hcc i hin
        have d1 := cell_below hb.out d1
        have d2 := cell_below hb.out d2
        have HS := Lib.hid (summed1_any (f i) (.slice pu nt ku) (cs.getD i clD).2 (cs.getD i clD).1 t wo ((Hf.out i hin).below hb.out) (Hu.out.below hb.out))
        obtain ⟨pz, kz, ez, _, _⟩ := (Hf.out i hin)
        obtain ⟨c0, hc0⟩ : ∃ c, c = (cs.getD i clD).2 := ⟨_, rfl⟩
        obtain ⟨nz, hnz⟩ : ∃ c, c = (cs.getD i clD).1.length := ⟨_, rfl⟩
        obtain ⟨c, hcm⟩ : ∃ c, c = cmpB (cs.getD i clD).1 t := ⟨_, rfl⟩
        rw [← hnz] at ez
        rw [ez, ← hc0, ← hcm] at HS
        rw [ez] at d1
        rw [← hc0] at d2
        have Hcm := Lib.hid hcm
        clear hcc hc0 hnz hcm ez
        by_cases hc00 : c = 0
        · subst hc00
          go_wp2_with fail
          refine HS.out.mono ?_
          rintro e w' ⟨rfl, hb'⟩
          have Hb' := Lib.hid (hb.out.trans (hb'.mono hb.out.size))
          clear hb' HS
          go_wp2_with fail
          go_ret2
          exact ⟨by rw [decide_eq_true ⟨hin, Hcm.out.symm⟩]; rfl, Hb'.out⟩
        · have hcb : (c == 0) = false := by simp [hc00]
          go_wp2_with fail
          refine HS.out.mono ?_
          rintro e w' ⟨rfl, hb'⟩
          have Hb' := Lib.hid (hb.out.trans (hb'.mono hb.out.size))
          clear hb' HS
          go_wp2_with fail
          go_ret2
          exact ⟨by rw [decide_eq_false (fun h => hc00 (Hcm.out.trans h.2))]; rfl, Hb'.out⟩
      · have hini : ¬ ((i : Int) < (n : Int)) := by omega
        go_wp2_with fail
        go_ret2
        exact ⟨by first | rfl | (rw [decide_eq_false (fun h => hin h.1)]; rfl) | simp, hb.out⟩

end Go.Proofs.YtnpghgpejnlebaaGreat

namespace Go.Proofs.YtnpghgpejnlebaaGreat
set_option linter.all false
open Go.RowKit

theorem blk3 {w : World} {b : Nat} {x0 x1 x2 : Value} {T : TypeId} (h : w.heap[b]? = some (.cells #[x0, x1, x2] T (0, 0))) :
    w.cell? ⟨b, 0, none⟩ = some x0 ∧ w.cell? ⟨b, 1, none⟩ = some x1 ∧ w.cell? ⟨b, 2, none⟩ = some x2 ∧ (∀ j, w.frozen? ⟨b, j, none⟩ = false) ∧ b < w.heap.size :=
  ⟨cell_of_blk h rfl, cell_of_blk h rfl, cell_of_blk h rfl, free_of_blk h, (Array.getElem?_eq_some_iff.1 h).1⟩

theorem and255 (x : Int) : 0 ≤ bits .and .i64 x 255 ∧ bits .and .i64 x 255 ≤ 255 := by
  have h1 : (BitVec.ofInt 64 x).toNat &&& 255 < 2 ^ 8 := Nat.and_lt_two_pow _ (by decide)
  have e : bits .and .i64 x 255 = IntKind.i64.wrap (((BitVec.ofInt 64 x).toNat &&& 255 : Nat) : Int) := by
    simp only [bits, BitVec.toNat_and]
    rfl
  have e2 : IntKind.i64.wrap (((BitVec.ofInt 64 x).toNat &&& 255 : Nat) : Int) = (((BitVec.ofInt 64 x).toNat &&& 255 : Nat) : Int) := k64 (by omega) (by omega)
  rw [e, e2]
  omega

/-- bytes that can be read -/
def Byts (w : World) (v : Value) (n : Nat) : Prop := ∃ f : Nat → Int, Rd w v n fun j => .int .u8 (f j)
theorem Byts.below {w w' : World} {v : Value} {n : Nat} (h : Byts w v n) (hb : Below w.heap.size w w') : Byts w' v n := by
  obtain ⟨f, h⟩ := h
  exact ⟨f, h.below hb⟩

theorem Byts.frm {w w' : World} {p : Option Addr} {n cap k : Nat} (h : Byts w (.slice p n cap) n) (hf : Frm k (k + 1) w w') (hne : 0 < n → ∀ a, p = some a → a.block < k) : Byts w' (.slice p n cap) n := by
  obtain ⟨f, p', cap', e, hm, hx⟩ := h
  injection e with e1 _ e3
  subst e1 e3
  refine ⟨f, p, cap, rfl, hm, fun h0 => ?_⟩
  obtain ⟨b, off, hp, hc⟩ := hx h0
  refine ⟨b, off, hp, fun j hj => ?_⟩
  have hb := World.block_lt_of_cell? w _ (hc j hj)
  have h1 := hne h0 _ hp
  rw [World.cell?_of_block (w := w) (hf.block b hb (by dsimp only at h1; omega))]
  exact hc j hj

/-- the cursor in block k -/
def Cur (w : World) (k : Nat) : Prop :=
  ∃ (p : Option Addr) (n cap i : Nat) (h : Int), w.heap[k]? = some (.cells #[.slice p n cap, .int .i64 (i : Int), .int .i64 h] 65 (0, 0)) ∧ i ≤ n ∧ Byts w (.slice p n cap) n ∧ (0 < n → ∀ a, p = some a → a.block < k)
theorem Cur.lt {w : World} {k : Nat} (h : Cur w k) : k < w.heap.size := by
  obtain ⟨_, _, _, _, _, h, _⟩ := h
  exact blk_lt h
theorem Cur.keepB {w w' : World} {k B : Nat} (h : Cur w k) (hb : Below B w w') (hB : k < B) : Cur w' k := by
  have hk := h.lt
  obtain ⟨p, n, cap, i, x, h1, h2, ⟨f, p', cap', e, hm, h3⟩, h4⟩ := h
  injection e with e1 _ e3
  subst e1 e3
  refine ⟨p, n, cap, i, x, by rw [hb.block k hB]; exact h1, h2, ⟨f, p, cap, rfl, hm, fun h0 => ?_⟩, h4⟩
  obtain ⟨b, off, hp, hc⟩ := h3 h0
  have hlt := h4 h0 _ hp
  dsimp only at hlt
  exact ⟨b, off, hp, fun j hj => by rw [World.cell?_of_block (w := w) (hb.block b (by omega))]; exact hc j hj⟩
theorem Frm.thenB {lo hi B : Nat} {a b c : World} (h : Frm lo hi a b) (hb : Below B b c) (hB : a.heap.size ≤ B) : Frm lo hi a c :=
  ⟨hb.os.trans h.os, hb.tape.trans h.tape, hb.output.trans h.output, Nat.le_trans h.size hb.size, fun k hk ho => (hb.block k (by omega)).trans (h.block k hk ho)⟩
theorem OwnI.setOther {T : TypeId} {w : World} {lo hi : Nat} {v : Value} {xs : List Int} (h : OwnI T w lo hi v xs) {a : Addr} (hne : v.ownBlock ≠ some a.block) (u : Value) : OwnI T (w.setCell a u) lo hi v xs :=
  ⟨ownsRow_of_block h.1 fun b hb => Below.heap_setCell _ _ _ _ fun e => hne (by rw [hb, e]), h.2⟩
theorem Cur.below {w w' : World} {k : Nat} (h : Cur w k) (hb : Below w.heap.size w w') : Cur w' k := by
  obtain ⟨p, n, cap, i, x, h1, h2, h3, h4⟩ := h
  exact ⟨p, n, cap, i, x, blk_later h1 hb, h2, h3.below hb, h4⟩

set_option maxRecDepth 100000 in
set_option maxHeartbeats 2000000 in
theorem l1Byte_any (k : Nat) (w : World) (h : Cur w k) :
    Calls Tryz.prog 56 #[.pointer (some ⟨k, 0, none⟩)] w fun e w' => ∃ x : Int, e = .returned (.int .i64 x) ∧ 0 ≤ x ∧ x ≤ 255 ∧ Cur w' k ∧ Frm k (k + 1) w w' := by
  obtain ⟨p, n, cap, i, x, h1, h2, ⟨f, h3⟩, h4⟩ := h
  obtain ⟨c0, c1, c2, cf, cz⟩ := blk3 h1
  obtain ⟨_, _, e, ⟨hx1, hx2⟩, hxc⟩ := h3
  injection e with e1 e2 e3
  subst e1 e3
  unfold maxLen at hx2
  have Hxc := Lib.hid hxc
  clear hxc e2
  go_enter Tryz.func56, Tryz.ntmps56
  go_wp2_with fail
  go_quiet (fail)
  obtain ⟨X, hX⟩ : ∃ X, X = wrap64 (wrap64 (x * 6364136223846793005) + 1442695040888963407) := ⟨_, rfl⟩
  rw [← hX]
  obtain ⟨Y, hY⟩ : ∃ Y, Y = bits BinOp.and IntKind.i64 (bits BinOp.xor IntKind.i64 (X / 8589934592) (X / 35184372088832)) 255 := ⟨_, rfl⟩
  rw [← hY]
  have hY2 := and255 (bits BinOp.xor IntKind.i64 (X / 8589934592) (X / 35184372088832))
  rw [← hY] at hY2
  clear hX hY
  have hf2 : Frm k (k + 1) w ((w.setCell ⟨k, 2, none⟩ (.int .i64 X)).drewN nq) := ((Frm.refl k (k + 1) w).setCell (Nat.le_refl _) (Nat.lt_succ_self _) _).drewN nq
  have hh2 : ((w.setCell ⟨k, 2, none⟩ (.int .i64 X)).drewN nq).heap[k]? = some (.cells #[.slice p n cap, .int .i64 (i : Int), .int .i64 X] 65 (0, 0)) := heap_setCell_at h1 2 _
  have hB2 : Byts ((w.setCell ⟨k, 2, none⟩ (.int .i64 X)).drewN nq) (.slice p n cap) n := Byts.frm ⟨f, _, _, rfl, ⟨hx1, by unfold maxLen; omega⟩, Hxc.out⟩ hf2 h4
  generalize (w.setCell ⟨k, 2, none⟩ (.int .i64 X)).drewN nq = w2 at *
  clear c0 c1 c2 cf cz Hxc f
  obtain ⟨c0, c1, c2, cf, cz⟩ := blk3 hh2
  have HB2 := Lib.hid hB2
  have Hf2 := Lib.hid hf2
  obtain ⟨f, p', cap', e, _, hxc⟩ := hB2
  injection e with e1 _ e3
  subst e1 e3
  clear hf2
  by_cases hlt : i < n
  · obtain ⟨b, off, rfl, hc⟩ := hxc (by omega)
    have cb := hc i hlt
    have hlt2 : (i : Int) < (n : Int) := by omega
    clear hxc hc
    go_wp2_with fail
    go_quiet (fail)
    go_wp2_with fail
    go_quiet (fail)
    obtain ⟨Z, hZ⟩ : ∃ Z, Z = bits BinOp.and IntKind.i64 (wrap64 (Y + wrap64 (f i))) 255 := ⟨_, rfl⟩
    rw [← hZ]
    have hZ2 := and255 (wrap64 (Y + wrap64 (f i)))
    rw [← hZ] at hZ2
    clear hZ
    have hcast : (i : Int) + 1 = ((i + 1 : Nat) : Int) := by omega
    have Hcast := Lib.hid hcast
    clear hcast
    go_wp2_with fail
    go_ret
    rw [Hcast.out]
    refine ⟨Z, rfl, hZ2.1, hZ2.2, ⟨_, n, cap, i + 1, X, by exact heap_setCell_at hh2 1 _, by omega, ?_, h4⟩, ?_⟩
    · exact HB2.out.frm (k := k) (Frm.setCell ((Frm.refl k (k + 1) w2).drewN _) (Nat.le_refl k) (Nat.lt_succ_self k) _) h4
    · exact Frm.setCell (Hf2.out.drewN _) (Nat.le_refl k) (Nat.lt_succ_self k) _
  · have hlt2 : ¬ (i : Int) < (n : Int) := by omega
    clear hxc
    go_wp2_with fail
    go_quiet (fail)
    go_wp2_with fail
    go_ret
    exact ⟨Y, rfl, hY2.1, hY2.2, ⟨p, n, cap, i, X, hh2, h2, HB2.out.frm (k := k) ((Frm.refl k (k + 1) w2).drewN _) h4, h4⟩, Hf2.out.drewN _⟩

set_option maxRecDepth 100000 in
set_option maxHeartbeats 2000000 in
/-- a number from 0 to m - 1, where m is not great -/
theorem l1Below_any (k m : Nat) (w : World) (h : Cur w k) (h0 : 1 ≤ m) (hm : m ≤ 256) :
    Calls Tryz.prog 31 #[.pointer (some ⟨k, 0, none⟩), .int .i64 (m : Int)] w fun e w' => ∃ x : Nat, e = .returned (.int .i64 (x : Int)) ∧ x < m ∧ Cur w' k ∧ Frm k (k + 1) w w' := by
  have Hc := Lib.hid h
  clear h
  go_enter Tryz.func31, Tryz.ntmps31
  go_wp2_with fail
  refine (l1Byte_any k _ Hc.out).mono ?_
  rintro e w1 ⟨x, rfl, hx0, hx1, hc1, hf1⟩
  obtain ⟨X, rfl⟩ := Int.eq_ofNat_of_zero_le hx0
  have Hc1 := Lib.hid hc1
  have Hf1 := Lib.hid hf1
  clear hc1 hf1
  go_wp2_with fail
  go_ret
  exact ⟨X % m, ret_int (Int.natCast_emod X m).symm, Nat.mod_lt _ (by omega), Hc1.out, Hf1.out⟩

set_option maxRecDepth 100000 in
set_option maxHeartbeats 2000000 in
theorem l1Once_any (k m : Nat) (w : World) (h : Cur w k) (h0 : 1 ≤ m) (hm : m ≤ 256) :
    Calls Tryz.prog 32 #[.pointer (some ⟨k, 0, none⟩), .int .i64 (m : Int)] w fun e w' => ∃ b : Bool, e = .returned (.bool b) ∧ Cur w' k ∧ Frm k (k + 1) w w' := by
  have Hc := Lib.hid h
  clear h
  go_enter Tryz.func32, Tryz.ntmps32
  go_wp2_with fail
  refine (l1Below_any k m _ Hc.out h0 hm).mono ?_
  rintro e w1 ⟨x, rfl, hx, hc1, hf1⟩
  go_wp2_with fail
  go_ret
  exact ⟨_, rfl, hc1, hf1⟩

set_option maxRecDepth 100000 in
set_option maxHeartbeats 2000000 in
/-- one of some numbers -/
theorem l1PickInt_any (k : Nat) (v : Value) (xs : List Int) (w : World) (h : Cur w k) (hv : Ints w v xs) (hne : ∀ p n c, v = .slice p n c → ∀ a, p = some a → a.block ≠ k) (h0 : 1 ≤ xs.length) (hm : xs.length ≤ 256) :
    Calls Tryz.prog 33 #[.pointer (some ⟨k, 0, none⟩), v] w fun e w' => ∃ x ∈ xs, e = .returned (.int .i64 x) ∧ Cur w' k ∧ Frm k (k + 1) w w' := by
  have Hc := Lib.hid h
  clear h
  obtain ⟨p, cap, rfl, ⟨hx1, hx2⟩, hxc⟩ := hv
  obtain ⟨b, off, rfl, hc⟩ := hxc h0
  have hk : b ≠ k := hne _ _ _ rfl _ rfl
  unfold maxLen at hx2
  clear hne hxc
  go_enter Tryz.func33, Tryz.ntmps33
  go_wp2_with fail
  refine (l1Below_any k xs.length _ Hc.out h0 hm).mono ?_
  rintro e w1 ⟨x, rfl, hx, hc1, hf1⟩
  have c1 : w1.cell? ⟨b, off + x, none⟩ = some (.int .i64 xs[x]) := by
    rw [World.cell?_of_block (w := w) (hf1.block b (World.block_lt_of_cell? w _ (hc x hx)) (by omega)), hc x hx]
    simp [iv, List.getD_eq_getElem?_getD, hx]
  have Hc1 := Lib.hid hc1
  have Hf1 := Lib.hid hf1
  have Hm := Lib.hid (show xs[x] ∈ xs from List.getElem_mem hx)
  obtain ⟨X, hX⟩ : ∃ X, X = xs[x] := ⟨_, rfl⟩
  rw [← hX] at c1 Hm
  clear hX hc hc1 hf1
  go_wp2_with fail
  go_ret
  exact ⟨X, Hm.out, rfl, Hc1.out, Hf1.out⟩

end Go.Proofs.YtnpghgpejnlebaaGreat
