/-
  Plain lists: rows put behind one another. No program, no memory.
  append on a slice that the call made: laws of the walk, over any program.
  slices.Concat at []int, and the matrix of some rows.
  PermMatrix, the reference's and the program's: both give the matrix with 1 where the permutation says.
  MatrixOk, the reference's and the program's: both answer alike.
-/
import Derived.Test.YtpfefjdefopccaaJ1
import Derived.StillTailTactics
namespace Go.Proofs.Ytpfefjdefopccaa
set_option linter.all false

theorem flat_length {α : Type} {n : Nat} : ∀ {rows : List (List α)}, (∀ r ∈ rows, r.length = n) → rows.flatten.length = rows.length * n
  | [], _ => by simp
  | r :: rs, h => by
    have h1 := h r (by simp)
    have h2 := flat_length (rows := rs) (fun x hx => h x (by simp [hx]))
    simp only [List.flatten_cons, List.length_append, List.length_cons, h1, h2, Nat.add_mul]
    omega

theorem flat_getElem? {α : Type} {n : Nat} (hn : 0 < n) : ∀ {rows : List (List α)}, (∀ r ∈ rows, r.length = n) → ∀ t, rows.flatten[t]? = (rows[t / n]?).bind fun r => r[t % n]?
  | [], _, t => by simp
  | r :: rs, h, t => by
    have h1 := h r (by simp)
    have ih := flat_getElem? hn (rows := rs) (fun x hx => h x (by simp [hx]))
    simp only [List.flatten_cons]
    by_cases ht : t < n
    · rw [List.getElem?_append_left (by omega), Nat.div_eq_of_lt ht, Nat.mod_eq_of_lt ht]
      simp
    · rw [List.getElem?_append_right (by omega), ih, h1]
      have e1 : t / n = (t - n) / n + 1 := by
        rw [Nat.div_eq, if_pos (by omega)]
      have e2 : t % n = (t - n) % n := Nat.mod_eq_sub_mod (by omega)
      rw [e1, e2]
      simp

theorem flat_getD {n : Nat} (hn : 0 < n) {rows : List (List Int)} (h : ∀ r ∈ rows, r.length = n) (t : Nat) : rows.flatten.getD t 0 = (rows.getD (t / n) []).getD (t % n) 0 := by
  simp only [List.getD_eq_getElem?_getD, flat_getElem? hn h t]
  cases rows[t / n]? <;> simp

/-- row i of a matrix that is given row by row -/
def rowAt (C : Nat) (D : List Int) (i : Nat) : List Int := (D.drop (i * C)).take C
def rowsOf (R C : Nat) (D : List Int) : List (List Int) := (List.range R).map (rowAt C D)

theorem rowAt_length {C : Nat} {D : List Int} {i : Nat} (h : (i + 1) * C ≤ D.length) : (rowAt C D i).length = C := by
  simp only [rowAt, List.length_take, List.length_drop]
  rw [Nat.add_mul] at h
  omega
theorem rowAt_getD {C : Nat} {D : List Int} {i j : Nat} (hj : j < C) : (rowAt C D i).getD j 0 = D.getD (i * C + j) 0 := by
  simp only [rowAt, List.getD_eq_getElem?_getD, List.getElem?_take, if_pos hj, List.getElem?_drop]
theorem rowsOf_length (R C : Nat) (D : List Int) : (rowsOf R C D).length = R := by simp [rowsOf]
theorem rowsOf_getD {R C : Nat} {D : List Int} {i : Nat} (hi : i < R) : (rowsOf R C D).getD i [] = rowAt C D i := by
  simp [rowsOf, List.getD_eq_getElem?_getD, hi]
theorem mul_le_of {i R C : Nat} (h : i < R) : (i + 1) * C ≤ R * C := Nat.mul_le_mul_right _ h
theorem rowsOf_each {R C : Nat} {D : List Int} (h : D.length = R * C) : ∀ r ∈ rowsOf R C D, r.length = C := by
  intro r hr
  simp only [rowsOf, List.mem_map, List.mem_range] at hr
  obtain ⟨i, hi, rfl⟩ := hr
  exact rowAt_length (by rw [h]; exact mul_le_of hi)
theorem rowsOf_flat {R C : Nat} {D : List Int} (h : D.length = R * C) : (rowsOf R C D).flatten = D := by
  rcases Nat.eq_zero_or_pos C with rfl | hC
  · have h0 : D = [] := List.eq_nil_of_length_eq_zero (by omega)
    subst h0
    apply List.eq_nil_of_length_eq_zero
    rw [flat_length (n := 0) (rowsOf_each h)]; omega
  · have hl := flat_length (rowsOf_each h)
    rw [rowsOf_length] at hl
    apply List.ext_getElem?
    intro t
    rw [flat_getElem? hC (rowsOf_each h)]
    by_cases ht : t < R * C
    · have hd : t / C < R := Nat.div_lt_of_lt_mul (by rwa [Nat.mul_comm])
      have hm : t % C < C := Nat.mod_lt _ hC
      rw [show (rowsOf R C D)[t / C]? = some (rowAt C D (t / C)) by simp [rowsOf, hd]]
      simp only [Option.bind_some, rowAt, List.getElem?_take, if_pos hm, List.getElem?_drop]
      congr 1
      rw [Nat.mul_comm]
      exact Nat.div_add_mod t C
    · have hd : ¬ t / C < R := fun hd => ht (by
        have := Nat.div_add_mod t C
        have hm : t % C < C := Nat.mod_lt _ hC
        have h2 := Nat.mul_le_mul_right C hd
        rw [Nat.succ_mul] at h2
        have h3 : C * (t / C) = t / C * C := Nat.mul_comm _ _
        omega)
      rw [show (rowsOf R C D)[t / C]? = none by simp [rowsOf]; omega]
      simp
      omega
theorem rowsOf_of_flat {C : Nat} {rows : List (List Int)} (h : ∀ r ∈ rows, r.length = C) : rowsOf rows.length C rows.flatten = rows := by
  apply List.ext_getElem (by rw [rowsOf_length])
  intro i h1 h2
  rw [rowsOf_length] at h1
  have hr : (rowsOf rows.length C rows.flatten)[i] = rowAt C rows.flatten i := by simp [rowsOf]
  rw [hr]
  have hl : rows[i].length = C := h _ (List.getElem_mem h2)
  have hfl := flat_length h
  apply List.ext_getElem (by rw [rowAt_length (by rw [hfl]; exact mul_le_of h1), hl])
  intro j h3 h4
  rw [hl] at h4
  have hC : 0 < C := by omega
  have e1 : (rowAt C rows.flatten i)[j]? = rows[i][j]? := by
    simp only [rowAt, List.getElem?_take, if_pos h4, List.getElem?_drop]
    rw [flat_getElem? hC h, show (i * C + j) / C = i by rw [Nat.mul_comm, Nat.mul_add_div hC, Nat.div_eq_of_lt h4]; rfl,
      show (i * C + j) % C = j by rw [Nat.mul_comm, Nat.mul_add_mod, Nat.mod_eq_of_lt h4], List.getElem?_eq_getElem h2]
    rfl
  rw [List.getElem?_eq_getElem h3, List.getElem?_eq_getElem (by omega)] at e1
  exact Option.some.inj e1

/-- row i of a matrix with 1 where a permutation says -/
def unitRow (n : Nat) (x : Int) : List Int := (List.range n).map fun (j : Nat) => if (j : Int) = x then 1 else 0
def permRows (w : List Int) : List (List Int) := w.map (unitRow w.length)

theorem unitRow_length (n : Nat) (x : Int) : (unitRow n x).length = n := by simp [unitRow]
theorem unitRow_getD {n : Nat} {x : Int} {j : Nat} (h : j < n) : (unitRow n x).getD j 0 = if (j : Int) = x then 1 else 0 := by
  simp [unitRow, List.getD_eq_getElem?_getD, h]
theorem permRows_each (w : List Int) : ∀ r ∈ permRows w, r.length = w.length := by
  intro r hr
  simp only [permRows, List.mem_map] at hr
  obtain ⟨x, _, rfl⟩ := hr
  exact unitRow_length _ _
theorem permRows_length (w : List Int) : (permRows w).length = w.length := by simp [permRows]
theorem permRows_flat_length (w : List Int) : (permRows w).flatten.length = w.length * w.length := by
  rw [flat_length (permRows_each w), permRows_length]
theorem permRows_flat_getD {w : List Int} {t : Nat} (h : t < w.length * w.length) : (permRows w).flatten.getD t 0 = if ((t % w.length : Nat) : Int) = w.getD (t / w.length) 0 then 1 else 0 := by
  have hn : 0 < w.length := by
    rcases Nat.eq_zero_or_pos w.length with h0 | h0
    · rw [h0] at h; omega
    · exact h0
  have hd : t / w.length < w.length := Nat.div_lt_of_lt_mul h
  rw [flat_getD hn (permRows_each w)]
  have : (permRows w).getD (t / w.length) [] = unitRow w.length (w.getD (t / w.length) 0) := by
    simp [permRows, List.getD_eq_getElem?_getD, hd]
  rw [this, unitRow_getD (Nat.mod_lt _ hn)]

theorem div_at {n k m : Nat} (h : m < n) : (k * n + m) / n = k ∧ (k * n + m) % n = m := by
  have hn : 0 < n := by omega
  refine ⟨?_, ?_⟩
  · rw [Nat.mul_comm, Nat.mul_add_div hn, Nat.div_eq_of_lt h]; rfl
  · rw [Nat.mul_comm, Nat.mul_add_mod, Nat.mod_eq_of_lt h]
/-- the permutation's matrix: one row more has its 1 -/
theorem pm_step {xs : List Int} {k m t : Nat} (hm : xs.getD k 0 = (m : Int)) (hml : m < xs.length) :
    (if t = k * xs.length + m then (1 : Int) else if t / xs.length < k ∧ ((t % xs.length : Nat) : Int) = xs.getD (t / xs.length) 0 then 1 else 0) =
      if t / xs.length < k + 1 ∧ ((t % xs.length : Nat) : Int) = xs.getD (t / xs.length) 0 then 1 else 0 := by
  obtain ⟨e1, e2⟩ := div_at (k := k) hml
  by_cases e : t = k * xs.length + m
  · subst e
    rw [if_pos rfl, if_pos]
    rw [e1, e2, hm]
    exact ⟨by omega, rfl⟩
  · rw [if_neg e]
    by_cases h1 : t / xs.length < k
    · have h2 : t / xs.length < k + 1 := by omega
      simp only [h1, h2, true_and]
    · by_cases h3 : t / xs.length = k
      · rw [if_neg (fun h => h1 h.1), if_neg]
        rintro ⟨_, h4⟩
        rw [h3, hm] at h4
        have h5 : t % xs.length = m := by omega
        apply e
        have := Nat.div_add_mod t xs.length
        rw [h3, h5, Nat.mul_comm] at this
        exact this.symm
      · rw [if_neg (fun h => h1 h.1), if_neg (fun h => by omega)]

theorem take_flat_succ {rows : List (List Int)} {k : Nat} (h : k < rows.length) : (rows.take (k + 1)).flatten = (rows.take k).flatten ++ rows.getD k [] := by
  rw [List.take_succ_eq_append_getElem h, List.flatten_append]; simp [List.getD_eq_getElem?_getD, h]
theorem take_flat_le (rows : List (List Int)) (k : Nat) : (rows.take k).flatten.length ≤ rows.flatten.length := by
  have : rows.flatten = (rows.take k).flatten ++ (rows.drop k).flatten := by rw [← List.flatten_append, List.take_append_drop]
  rw [this, List.length_append]; omega
theorem take_flat_len {rows : List (List Int)} {k : Nat} (h : k < rows.length) : (rows.take k).flatten.length + (rows.getD k []).length = (rows.take (k + 1)).flatten.length := by
  rw [take_flat_succ h, List.length_append]

theorem permRows_take_succ {xs : List Int} {k : Nat} (h : k < xs.length) : (permRows xs).take (k + 1) = (permRows xs).take k ++ [unitRow xs.length (xs.getD k 0)] := by
  rw [List.take_succ_eq_append_getElem (by rw [permRows_length]; exact h)]
  simp [permRows, List.getD_eq_getElem?_getD, h]

end Go.Proofs.Ytpfefjdefopccaa

namespace Go.Proofs.Ytpfefjdefopccaa
set_option linter.all false
open Go.RowKit

section
variable {P : Program} (w : World)

/-- append of nothing: the slice as it was -/
theorem run_append_none (t ty e : TypeId) (i : TypeInfo) (ht : P.underlying t = some (.slice e)) (hi : P.info? e = some i) (p q : Option Addr) (n cap c : Nat) (hn : n ≤ cap) :
    (Builtin.append_ #[t, t] ty #[.slice p n cap, .slice q 0 c]).run P w = .ok (.slice p n cap) w := by
  cases p <;> cases q <;>
    simp [Builtin.append_, run_underlying ht, sizeOf, typeInfo, hi, Builtin.lenOf, Builtin.firstCells, hn, loadCells, loadCellsFrom, storeCells]

/-- append of some one-cell elements that can be read, on an owned slice -/
theorem run_append_F (t ty e : TypeId) (i : TypeInfo) (z : Value) (bytes : Nat) (ht : P.underlying t = some (.slice e)) (hi : P.info? e = some i) (hz : i.zero = some z)
    (hsize : i.size = 1) (hby : i.bytes = bytes) (hzs : z.cells.size = 1)
    (lo hi' : Nat) (v : Value) (n : Nat) (f : Nat → Value) (hown : OwnF w lo hi' e v n f) (hlo : lo ≤ w.heap.size) (hhi : hi' ≤ w.heap.size)
    (u : Value) (m : Nat) (g : Nat → Value) (hx : Rd w u m g) (h1 : ∀ j, j < m → (g j).oneCell' = true) (h63 : n + m ≤ maxLen) (hbytes : (n + m) * bytes ≤ 140737488355328) :
    ∃ v' w', (Builtin.append_ #[t, t] ty #[v, u]).run P w = .ok v' w' ∧ OwnF w' lo w'.heap.size e v' (n + m) (fun j => if j < n then f j else g (j - n)) ∧ w.grownBy w' v.ownBlock := by
  obtain ⟨q, c, rfl, ⟨hmc, hcm⟩, hxc⟩ := hx
  by_cases hm : m = 0
  · subst hm
    obtain ⟨p, cap, rfl, hnc, _, _⟩ := hown.shape
    exact ⟨_, _, run_append_none w t ty e i ht hi p q n cap c hnc, (hown.mono (Nat.le_refl _) hhi).congr fun j hj => by rw [if_pos (by omega)], World.grownBy.refl _ _⟩
  · obtain ⟨b, off, rfl, hc⟩ := hxc (by omega)
    obtain ⟨xs, ho, hf⟩ := hown
    obtain ⟨v', w', hr, h2, h3, _⟩ := run_append_own (P := P) w lo t ty e i z 1 bytes ht hi hz hsize hby hzs (by omega) v n xs ho.1 ⟨b, off, none⟩ m c ((List.range m).map g) (by simp)
      (fun j x hx => by
        have hj : j < m := by
          rcases Nat.lt_or_ge j m with h | h
          · exact h
          · rw [List.getElem?_eq_none (by simpa using h)] at hx; cases hx
        simp [hj] at hx
        subst hx
        have hadd : (⟨b, off, none⟩ : Addr).add j = ⟨b, off + j, none⟩ := by unfold Addr.add; split <;> simp_all
        rw [hadd]
        exact hc j hj)
      (fun x hx => by
        simp only [List.mem_map, List.mem_range] at hx
        obtain ⟨j, hj, rfl⟩ := hx
        exact h1 j hj) h63 hbytes hlo
    refine ⟨v', w', hr, ⟨_, Own.of_row h2, fun j hj => ?_⟩, h3⟩
    have hl : xs.length = n := by have := ho.len; omega
    by_cases h : j < n
    · simp only [h, if_true]
      rw [List.getElem?_append_left (by omega), hf j h]
    · simp only [h, if_false]
      rw [List.getElem?_append_right (by omega), hl]
      have : j - n < m := by omega
      simp [this]
end

/-- append on a slice without room and without elements: new memory -/
theorem run_append_fresh {P : Program} (w : World) (t ty e : TypeId) (i : TypeInfo) (z : Value) (bytes : Nat) (ht : P.underlying t = some (.slice e)) (hi : P.info? e = some i) (hz : i.zero = some z)
    (hsize : i.size = 1) (hby : i.bytes = bytes) (hzs : z.cells.size = 1) (p : Option Addr)
    (u : Value) (m : Nat) (g : Nat → Value) (hx : Rd w u m g) (h0 : 0 < m) (h63 : m ≤ maxLen) (hbytes : m * bytes ≤ 140737488355328) :
    ∃ v' w', (Builtin.append_ #[t, t] ty #[.slice p 0 0, u]).run P w = .ok v' w' ∧ OwnF w' w.heap.size w'.heap.size e v' m g ∧ Below w.heap.size w w' := by
  obtain ⟨q, c, rfl, ⟨hmc, hcm⟩, hxc⟩ := hx
  obtain ⟨b, off, rfl, hc⟩ := hxc h0
  have hge := grownCap_ge w m 0 e
  have hle := grownCap_le_maxLen w m 0 e h63
  have hnews : ∀ (j : Nat) (v : Value), ((List.range m).map g)[j]? = some v → w.cell? ((⟨b, off, none⟩ : Addr).add j) = some v := fun j x hx => by
    have hj : j < m := by
      rcases Nat.lt_or_ge j m with h | h
      · exact h
      · rw [List.getElem?_eq_none (by simpa using h)] at hx; cases hx
    simp [hj] at hx
    subst hx
    have hadd : (⟨b, off, none⟩ : Addr).add j = ⟨b, off + j, none⟩ := by unfold Addr.add; split <;> simp_all
    rw [hadd]
    exact hc j hj
  have h63' : (m : Int) ≤ 9223372036854775807 := by unfold maxLen at h63; omega
  have fin : ∀ (cur : Array Value), cur.size = grownCap w m 0 e → (∀ j, j < m → cur[j]? = some (g j)) → OwnF (w.drew.alloc (.cells cur e)) w.heap.size (w.drew.alloc (.cells cur e)).heap.size e (.slice (some ⟨w.heap.size, 0, none⟩) m (grownCap w m 0 e)) m g := by
    intro cur hs hf
    refine OwnF.mk' (F := fun j => cur.getD j undef) ⟨cur, heap_alloc_new w.drew _, hs, fun j hj => ?_⟩ (Nat.le_refl _) (by simp) hge hle fun j hj => ?_
    · simp only [Array.getD_eq_getD_getElem?]; rw [Array.getElem?_eq_getElem (by omega)]; rfl
    · simp only [Array.getD_eq_getD_getElem?]; rw [hf j hj]; rfl
  have hlt : ∀ (l : List Value) (r : Array Value) (j : Nat), l.length = m → j < m → (l.toArray ++ r)[j]? = l[j]? := by
    intro l r j hl hj
    rw [Array.getElem?_append_left (by simpa [hl] using hj)]
    simp
  cases p with
  | none =>
    have hr := run_append_nil (P := P) w t ty e i z ht hi hz ⟨b, off, none⟩ m c ((List.range m).map g) (by simp [hsize]) hnews h0 h63' (by rw [hby]; omega)
    refine ⟨_, _, hr, fin _ ?_ fun j hj => ?_, ((Below.refl _ _).drew).alloc (by simp) _⟩
    · simp only [Array.size_append, List.size_toArray, List.length_map, List.length_range, size_zeroCells, hzs]; omega
    · rw [hlt _ _ _ (by simp) hj]; simp [hj]
  | some a =>
    have hr := run_append_grow (P := P) w t ty e i z ht hi hz a 0 0 [] (by simp) (by simp) ⟨b, off, none⟩ m c ((List.range m).map g) (by simp [hsize]) hnews (by omega) (by simpa using h63') (by rw [Nat.zero_add, nextslicecap_zero h0, hby]; omega)
    simp only [Nat.zero_add] at hr
    refine ⟨_, _, hr, fin _ ?_ fun j hj => ?_, ((Below.refl _ _).drew).alloc (by simp) _⟩
    · simp only [Array.size_append, List.size_toArray, List.length_map, List.length_range, List.length_nil, size_zeroCells, hzs]; omega
    · have e1 : ([] : List Value).toArray ++ ((List.range m).map g).toArray = ((List.range m).map g).toArray := by simp
      rw [e1, hlt _ _ _ (by simp) hj]; simp [hj]

theorem wpList_append_fresh {P : Program} {w : World} {ops : Array Oper} {rest : List Oper} {o : Oper} {a : Act} {Q : Exit → Act → World → Prop} (hgd : o.guard = none) (s x : Operand) (t : TypeId)
    (ho : o.op = .call { callee := .builtin .append, args := #[s, x], argTypes := #[t, t] })
    (e : TypeId) (z : Value) (bytes : Nat) (ht : P.underlying t = some (.slice e)) (hinfo : (P.info? e).map (fun i => (i.zero, i.size, i.bytes)) = some (some z, 1, bytes)) (hzs : z.cells.size = 1)
    (p : Option Addr) (hs : a.eval s = .slice p 0 0) (u : Value) (m : Nat) (g : Nat → Value) (hxu : a.eval x = u) (hx : Rd w u m g) (h0 : 0 < m) (h63 : m ≤ maxLen) (hbytes : m * bytes ≤ 140737488355328)
    (h : ∀ v' w', OwnF w' w.heap.size w'.heap.size e v' m g → Below w.heap.size w w' → wpList P ops Q rest (a.put o.dst v') w') :
    wpList P ops Q (o :: rest) a w := by
  refine wpList_plain hgd fun K hK' => ?_
  obtain ⟨i, hi, hz, hsz, hby⟩ := info_parts hinfo
  obtain ⟨v', w', hr, h2, h3⟩ := run_append_fresh (P := P) w t o.type e i z bytes ht hi hz hsz hby hzs p u m g hx h0 h63 hbytes
  unfold Oper.wp
  simp [execOp, ho, resolve, invoke, builtin, hs, hxu, hr, Result.andThen]
  exact hK' _ _ (h v' w' h2 h3)

/-- .. as a law of the walk -/
theorem wpList_append_F {P : Program} {w : World} {ops : Array Oper} {rest : List Oper} {o : Oper} {a : Act} {Q : Exit → Act → World → Prop} (hgd : o.guard = none) (s x : Operand) (t : TypeId)
    (ho : o.op = .call { callee := .builtin .append, args := #[s, x], argTypes := #[t, t] })
    (e : TypeId) (z : Value) (bytes : Nat) (ht : P.underlying t = some (.slice e)) (hinfo : (P.info? e).map (fun i => (i.zero, i.size, i.bytes)) = some (some z, 1, bytes)) (hzs : z.cells.size = 1)
    (lo hi' : Nat) (v : Value) (n : Nat) (f : Nat → Value) (hs : a.eval s = v) (hown : OwnF w lo hi' e v n f) (hlo : lo ≤ w.heap.size) (hhi : hi' ≤ w.heap.size)
    (u : Value) (m : Nat) (g : Nat → Value) (hxu : a.eval x = u) (hx : Rd w u m g) (h1 : ∀ j, j < m → (g j).oneCell' = true) (h63 : n + m ≤ maxLen) (hbytes : (n + m) * bytes ≤ 140737488355328)
    (h : ∀ v' w', OwnF w' lo w'.heap.size e v' (n + m) (fun j => if j < n then f j else g (j - n)) → w.grownBy w' v.ownBlock → wpList P ops Q rest (a.put o.dst v') w') :
    wpList P ops Q (o :: rest) a w := by
  refine wpList_plain hgd fun K hK' => ?_
  obtain ⟨i, hi, hz, hsz, hby⟩ := info_parts hinfo
  obtain ⟨v', w', hr, h2, h3⟩ := run_append_F (P := P) w t o.type e i z bytes ht hi hz hsz hby hzs lo hi' v n f hown hlo hhi u m g hx h1 h63 hbytes
  unfold Oper.wp
  simp [execOp, ho, resolve, invoke, builtin, hs, hxu, hr, Result.andThen]
  exact hK' _ _ (h v' w' h2 h3)

theorem grownBy_below {w w' : World} {v : Value} {lo hi : Nat} (h : w.grownBy w' v.ownBlock) (hlo : ∀ k, v.ownBlock = some k → lo ≤ k ∧ k < hi) {B : Nat} (h1 : B ≤ lo) (h2 : B ≤ w.heap.size) : Below B w w' :=
  (Below.refl B w).grown h h2 (fun k hk => Nat.le_trans h1 (hlo k hk).1)
theorem OwnF.blocks {w : World} {lo hi : Nat} {T : TypeId} {v : Value} {n : Nat} {f : Nat → Value} (h : OwnF w lo hi T v n f) : ∀ k, v.ownBlock = some k → lo ≤ k ∧ k < hi := by
  obtain ⟨xs, h, _⟩ := h
  exact fun k hk => ⟨(h.block hk).1, (h.block hk).2.1⟩
/-- behind an append on v: what is owned in other blocks stays -/
theorem OwnF.grown {w w' : World} {lo hi : Nat} {T : TypeId} {v u : Value} {n : Nat} {f : Nat → Value} (h : OwnF w lo hi T v n f) (hg : w.grownBy w' u.ownBlock) (hne : ∀ k, v.ownBlock = some k → u.ownBlock ≠ some k) : OwnF w' lo hi T v n f := by
  obtain ⟨xs, h, hf⟩ := h
  exact ⟨xs, ⟨ownsRow_of_block h.1 fun k hk => hg.block k (h.block hk).2.2 fun e => hne k hk e.symm, h.2⟩, hf⟩

/-- an empty slice, nil or not -/
theorem OwnF.nil (w : World) (lo hi : Nat) (T : TypeId) (f : Nat → Value) : OwnF w lo hi T (.slice none 0 0) 0 f := ⟨[], ⟨World.ownsRow_nil _ _ _ _, fun k hk => by simp [Value.ownBlock] at hk⟩, fun j hj => absurd hj (Nat.not_lt_zero _)⟩
theorem OwnF.made0 (w : World) (T : TypeId) (f : Nat → Value) : OwnF (w.alloc (.cells #[] T)) w.heap.size (w.heap.size + 1) T (.slice (some ⟨w.heap.size, 0, none⟩) 0 0) 0 f :=
  ⟨[], ⟨World.ownsRow_made w #[] 0 (Nat.le_refl _) (Nat.zero_le _) rfl, fun k hk => by simp [Value.ownBlock] at hk; omega⟩, fun j hj => absurd hj (Nat.not_lt_zero _)⟩

/-- the one value of a new block -/
theorem rd_one (W : World) (x : Value) (T : TypeId) {b : Nat} (h : b = W.heap.size) : Rd (W.alloc (.cells #[x] T)) (.slice (some ⟨b, 0, none⟩) 1 1) 1 (fun _ => x) := by
  subst h
  refine ⟨_, 1, rfl, ⟨Nat.le_refl _, by unfold maxLen; omega⟩, fun _ => ⟨_, 0, rfl, fun j hj => ?_⟩⟩
  obtain rfl : j = 0 := by omega
  exact cell_of_blk (heap_alloc_top W _) rfl

/-! ### lists of lists -/

/-- a slice of slices of ints that reads as a list of lists -/
def RdII (w : World) (v : Value) (rows : List (List Int)) : Prop :=
  ∃ f : Nat → Value, Rd w v rows.length f ∧ ∀ i, i < rows.length → Ints w (f i) (rows.getD i [])

theorem RdII.below {w w' : World} {v : Value} {rows : List (List Int)} (h : RdII w v rows) (hb : Below w.heap.size w w') : RdII w' v rows := by
  obtain ⟨f, h1, h2⟩ := h
  exact ⟨f, h1.below hb, fun i hi => (h2 i hi).below hb⟩
theorem RdII.qt {w w' : World} {v : Value} {rows : List (List Int)} (h : RdII w v rows) (hb : Qt w w') : RdII w' v rows := h.below (hb.below _)

/-- a slice of slices of ints that a call made: Ts the slices' type, Ti the ints' -/
def OwnII (Ts Ti : TypeId) (w : World) (lo hi : Nat) (v : Value) (rows : List (List Int)) : Prop :=
  ∃ f : Nat → Value, OwnF w lo hi Ts v rows.length f ∧ (∀ i, i < rows.length → OwnI Ti w lo hi (f i) (rows.getD i [])) ∧
    ∀ i j, i < j → j < rows.length → ∀ k, (f i).ownBlock = some k → (f j).ownBlock ≠ some k

namespace OwnII
variable {Ts Ti : TypeId} {w w' : World} {lo hi : Nat} {v : Value} {rows : List (List Int)}
theorem rd (h : OwnII Ts Ti w lo hi v rows) : RdII w v rows := by
  obtain ⟨f, h1, h2, _⟩ := h
  exact ⟨f, h1.rd, fun i hi => (h2 i hi).ints⟩
theorem keep (h : OwnII Ts Ti w lo hi v rows) (hb : ∀ k, lo ≤ k → k < hi → k < w.heap.size → w'.heap[k]? = w.heap[k]?) : OwnII Ts Ti w' lo hi v rows := by
  obtain ⟨f, h1, h2, h3⟩ := h
  exact ⟨f, h1.keep hb, fun i hi => Own.keep (h2 i hi) hb, h3⟩
theorem below (h : OwnII Ts Ti w lo hi v rows) (hb : Below w.heap.size w w') : OwnII Ts Ti w' lo hi v rows := h.keep fun k _ _ h3 => hb.block k h3
theorem frm {lo' hi' : Nat} (h : OwnII Ts Ti w lo hi v rows) (hb : Frm lo' hi' w w') (ho : hi ≤ lo' ∨ hi' ≤ lo) : OwnII Ts Ti w' lo hi v rows := h.keep fun k h1 h2 h3 => hb.block k h3 (by omega)
theorem mono {lo' hi' : Nat} (h : OwnII Ts Ti w lo hi v rows) (h1 : lo' ≤ lo) (h2 : hi ≤ hi') : OwnII Ts Ti w lo' hi' v rows := by
  obtain ⟨f, g1, g2, g3⟩ := h
  exact ⟨f, g1.mono h1 h2, fun i hi => (g2 i hi).mono h1 h2, g3⟩
theorem shape (h : OwnII Ts Ti w lo hi v rows) : ∃ p cap, v = .slice p rows.length cap ∧ rows.length ≤ cap ∧ cap ≤ maxLen := by
  obtain ⟨f, h1, _⟩ := h
  obtain ⟨p, cap, e, h2, h3, _⟩ := h1.shape
  exact ⟨p, cap, e, h2, h3⟩
/-- a row of its own is put behind the others -/
theorem snoc {v' x : Value} {xs : List Int} {mid : Nat} {f : Nat → Value} (g1 : OwnF w lo mid Ts v rows.length f) (g2 : ∀ i, i < rows.length → OwnI Ti w lo mid (f i) (rows.getD i []))
    (g3 : ∀ i j, i < j → j < rows.length → ∀ k, (f i).ownBlock = some k → (f j).ownBlock ≠ some k) (hx : OwnI Ti w mid hi x xs) (hm : lo ≤ mid) (hmh : mid ≤ hi) (hT : Ts ≠ Ti)
    (hg : w.grownBy w' v.ownBlock) (hsz : hi ≤ w'.heap.size)
    (hv : OwnF w' lo w'.heap.size Ts v' (rows.length + 1) (fun j => if j < rows.length then f j else x)) : OwnII Ts Ti w' lo w'.heap.size v' (rows ++ [xs]) := by
  have hrow : ∀ (y : Value) (ys : List Int) (lo1 hi1 : Nat), OwnI Ti w lo1 hi1 y ys → OwnI Ti w' lo1 hi1 y ys := by
    intro y ys lo1 hi1 hy
    refine ⟨ownsRow_of_block hy.1 fun k hk => hg.block k (Own.block hy hk).2.2 fun e => ?_, hy.2⟩
    obtain ⟨p, cap, hp, _⟩ := g1.shape
    have hvk := e.symm
    obtain ⟨zs, hz, _⟩ := g1
    rcases Own.row hz with ⟨e1, _⟩ | ⟨g, cap', F, e1, _, _, _, _, hr, _⟩
    · rw [e1] at hvk; simp [Value.ownBlock] at hvk
    · rw [e1] at hvk
      simp only [Value.ownBlock, Option.some.injEq] at hvk
      subst hvk
      rcases Own.row hy with ⟨e2, _⟩ | ⟨g', cap2, F2, e2, _, _, _, _, hr2, _⟩
      · rw [e2] at hk; simp [Value.ownBlock] at hk
      · rw [e2] at hk
        simp only [Value.ownBlock, Option.some.injEq] at hk
        subst hk
        obtain ⟨c, hc, _⟩ := hr
        obtain ⟨c2, hc2, _⟩ := hr2
        rw [hc] at hc2
        injection hc2 with hc2
        injection hc2 with _ hc2
        exact hT hc2
  refine ⟨_, by rw [List.length_append]; exact hv, fun i hi => ?_, fun i j hij hj k hk => ?_⟩
  · rw [List.length_append] at hi
    simp only [List.length_singleton] at hi
    by_cases hlt : i < rows.length
    · have e : (rows ++ [xs]).getD i [] = rows.getD i [] := by simp [List.getD_eq_getElem?_getD, List.getElem?_append_left hlt]
      simp only [hlt, if_true]
      rw [e]
      exact (hrow _ _ _ _ (g2 i hlt)).mono (Nat.le_refl _) (by omega)
    · have e : (rows ++ [xs]).getD i [] = xs := by
        have : i = rows.length := by omega
        subst this
        simp [List.getD_eq_getElem?_getD]
      simp only [hlt, if_false]
      rw [e]
      exact (hrow _ _ _ _ hx).mono hm hsz
  · rw [List.length_append] at hj
    simp only [List.length_singleton] at hj
    by_cases hlt : j < rows.length
    · simp only [hlt, if_true]
      simp only [show i < rows.length by omega, if_true] at hk
      exact g3 i j hij hlt k hk
    · simp only [hlt, if_false]
      simp only [show i < rows.length by omega, if_true] at hk
      intro e
      have h5 := (Own.block (g2 i (by omega)) hk).2.1
      have h6 := (Own.block hx e).1
      omega
end OwnII

end Go.Proofs.Ytpfefjdefopccaa

namespace Go.Proofs.Ytpfefjdefopccaa
set_option linter.all false
open Go.RowKit

theorem info_sl : (Try.prog.info? 24).map (fun i => (i.zero, i.size, i.bytes)) = some (some (.slice none 0 0), 1, 24) := by kernel_rfl

theorem run_append_make_nil {P : Program} (w : World) (t ti ty e : TypeId) (z : Value) (bytes : Nat) (ht : P.underlying t = some (.slice e)) (hti : P.underlying ti = some (.int .i64))
    (hinfo : (P.info? e).map (fun i => (i.zero, i.size, i.bytes)) = some (some z, 1, bytes)) (hzs : z.cells.size = 1) (n : Nat) (h0 : 0 < n) (hn : n ≤ 1000000) (hb : bytes ≤ 1000) (hb0 : 0 < bytes) :
    ∃ cap w', (Builtin.append_ #[t, ti] ty #[.slice none 0 0, .int .i64 (n : Int)]).run P w = .ok (.slice (some ⟨w.heap.size, 0, none⟩) n cap) w' ∧ n ≤ cap ∧ cap ≤ maxLen ∧
      (∃ F, w'.rowIs w.heap.size e cap F) ∧ Below w.heap.size w w' ∧ w'.heap.size = w.heap.size + 1 := by
  obtain ⟨i, hi, hz, hsz, hby⟩ := info_parts hinfo
  have hge := grownCap_ge w n 0 e
  have hle := grownCap_le_maxLen w n 0 e (by unfold maxLen; omega)
  have hwr : IntKind.i64.wrap (n : Int) = (n : Int) := k64 (by omega) (by omega)
  have hnb : n * bytes ≤ 1000000 * 1000 := Nat.mul_le_mul hn hb
  have h1 : ¬ ((n : Int) < 0) := by omega
  have h3 : ¬ (281474976710656 < Builtin.nextslicecap n 0 * i.bytes) := by rw [nextslicecap_zero h0, hby]; omega
  have h4 : ¬ (281474976710656 < (n : Int) * (i.bytes : Int)) := by
    rw [hby]
    have : ((n * bytes : Nat) : Int) = (n : Int) * (bytes : Int) := Int.natCast_mul _ _
    omega
  have h5 : ¬ (9223372036854775807 < (n : Int)) := by omega
  have h6 : n ≠ 0 := by omega
  refine ⟨grownCap w n 0 e, w.drew.alloc (.cells (Builtin.zeroCells z.cells n ++ Builtin.zeroCells z.cells (grownCap w n 0 e - n)) e), ?_, hge, hle, ⟨fun j => (Builtin.zeroCells z.cells n ++ Builtin.zeroCells z.cells (grownCap w n 0 e - n)).getD j undef, ?_⟩, ?_, by simp⟩
  · simp [Builtin.append_, run_underlying ht, run_underlying hti, sizeOf, typeInfo, zeroValue, hi, hz, hsz, Builtin.firstCells, asInt, asIntOf, hwr, h1, h3, h4, h5, h6, Question.forced, newRow, grownCap, loadCells, loadCellsFrom]
  · have hs : (Builtin.zeroCells z.cells n ++ Builtin.zeroCells z.cells (grownCap w n 0 e - n)).size = grownCap w n 0 e := by
      rw [Array.size_append, size_zeroCells, size_zeroCells, hzs]; omega
    exact ⟨_, heap_alloc_new w.drew _, hs, fun j hj => by simp only [Array.getD_eq_getD_getElem?]; rw [Array.getElem?_eq_getElem (by omega)]; rfl⟩
  · exact ((Below.refl _ _).drew).alloc (by simp) _

theorem wpList_append_make_nil {P : Program} {w : World} {ops : Array Oper} {rest : List Oper} {o : Oper} {a : Act} {Q : Exit → Act → World → Prop} (hgd : o.guard = none) (s x : Operand) (t ti : TypeId)
    (ho : o.op = .call { callee := .builtin .append, args := #[s, x], argTypes := #[t, ti] })
    (e : TypeId) (z : Value) (bytes : Nat) (ht : P.underlying t = some (.slice e)) (hti : P.underlying ti = some (.int .i64))
    (hinfo : (P.info? e).map (fun i => (i.zero, i.size, i.bytes)) = some (some z, 1, bytes)) (hzs : z.cells.size = 1) (n : Nat) (h0 : 0 < n) (hn : n ≤ 1000000) (hb : bytes ≤ 1000) (hb0 : 0 < bytes)
    (hs : a.eval s = .slice none 0 0) (hx : a.eval x = .int .i64 (n : Int))
    (h : ∀ cap w' F, n ≤ cap → cap ≤ maxLen → w'.rowIs w.heap.size e cap F → Below w.heap.size w w' → wpList P ops Q rest (a.put o.dst (.slice (some ⟨w.heap.size, 0, none⟩) n cap)) w') :
    wpList P ops Q (o :: rest) a w := by
  refine wpList_plain hgd fun K hK' => ?_
  obtain ⟨cap, w', hr, h1, h2, ⟨F, hF⟩, hbw, _⟩ := run_append_make_nil (P := P) w t ti o.type e z bytes ht hti hinfo hzs n h0 hn hb hb0
  unfold Oper.wp
  simp [execOp, ho, resolve, invoke, builtin, hs, hx, hr, Result.andThen]
  exact hK' _ _ (h cap w' F h1 h2 hF hbw)

theorem iv_append {xs ys : List Int} {n : Nat} (hn : n = xs.length) (j : Nat) : (if j < n then iv xs j else iv ys (j - n)) = iv (xs ++ ys) j := by
  subst hn
  unfold iv
  by_cases h : j < xs.length
  · rw [if_pos h]; simp [List.getD_eq_getElem?_getD, List.getElem?_append_left h]
  · rw [if_neg h]; simp [List.getD_eq_getElem?_getD, List.getElem?_append_right (Nat.le_of_not_lt h)]
theorem iv_one (xs : List Int) (j : Nat) : (iv xs j).oneCell' = true := rfl

end Go.Proofs.Ytpfefjdefopccaa

namespace Go.Proofs.Ytpfefjdefopccaa
set_option linter.all false
open Go.RowKit

def primeOk (p : Int) : Bool := decide (p = 2 ∨ p = 3 ∨ p = 5 ∨ p = 7)

set_option maxHeartbeats 400000 in
theorem l7Prime_any (p : Int) (w : World) :
    Calls Try.prog 57 #[.int .i64 p] w fun e w' => e = .returned (.bool (primeOk p)) ∧ w = w' := by
  by_cases h2 : p = 2
  · subst h2
    go_enter Try.func57, Try.ntmps57
    go_wp2
    go_ret
    exact ⟨rfl, rfl⟩
  by_cases h3 : p = 3
  · subst h3
    go_enter Try.func57, Try.ntmps57
    go_wp2
    go_ret
    exact ⟨rfl, rfl⟩
  by_cases h5 : p = 5
  · subst h5
    go_enter Try.func57, Try.ntmps57
    go_wp2
    go_ret
    exact ⟨rfl, rfl⟩
  by_cases h7 : p = 7
  · subst h7
    go_enter Try.func57, Try.ntmps57
    go_wp2
    go_ret
    exact ⟨rfl, rfl⟩
  · have e2 : (p == 2) = false := by simp [h2]
    have e3 : (p == 3) = false := by simp [h3]
    have e5 : (p == 5) = false := by simp [h5]
    have e7 : (p == 7) = false := by simp [h7]
    go_enter Try.func57, Try.ntmps57
    go_wp2
    go_ret
    exact ⟨ret_bool (by simp [primeOk, h2, h3, h5, h7]), rfl⟩

theorem info_mx : (Try.prog.info? 26).map (fun i => (i.zero, i.size, i.bytes)) = some (some (.agg #[.int .i64 0, .int .i64 0, .int .i64 0, .slice none 0 0]), 4, 48) := by kernel_rfl

set_option maxRecDepth 100000 in
set_option maxHeartbeats 1000000 in
theorem l7Perm_any (p : Int) (v : Value) (xs : List Int) (w : World) (h : Ints w v xs) (hp : permOk xs = true) :
    Calls Try.prog 32 #[.int .i64 p, v] w fun e w' =>
      ∃ u, e = .returned (.agg #[.int .i64 p, .int .i64 xs.length, .int .i64 xs.length, u]) ∧ OwnI 3 w' w.heap.size w'.heap.size u (permRows xs).flatten ∧ Below w.heap.size w w' := by
  have hw := Lib.hid h
  obtain ⟨q, cap, rfl, ⟨hx1, hx⟩, hxc⟩ := h
  obtain ⟨hl1, hl7, hr, _⟩ := of_decide_eq_true hp
  have Hp := Lib.hid hp
  clear hp
  have hsq : xs.length * xs.length ≤ 7 * 7 := Nat.mul_le_mul hl7 hl7
  obtain ⟨N, hN, hwr, hwk⟩ := mul_named xs.length xs.length (by omega)
  have hN49 : N ≤ 49 := by omega
  have HN := Lib.hid hN
  have Hr := Lib.hid hr
  have hmk := run_make_row' (P := Try.prog) 24 3 (.int .i64 0) 8 Try.underlying24 info_int rfl .i64 .i64 N (by omega) (by omega)
  clear hr hsq hN
  unfold maxLen at hx
  have Hxc := Lib.hid hxc
  clear hxc
  go_enter Try.func32, Try.ntmps32
  go_wp2
  clear hmk hwr hwk
  go_loopg [7] xs.length (fun g i wr => ∃ k : Nat, k ≤ xs.length ∧ g = xs.length - k ∧ i = .int .i64 k ∧ Below w.heap.size w wr ∧
    wr.heap[w.heap.size]? = some (.cells #[.int .i64 0, .int .i64 0, .int .i64 0, .slice none 0 0] 26) ∧
    wr.heap[w.heap.size + 1 + 1]? = some (.cells #[.int .i64 p, .int .i64 xs.length, .int .i64 xs.length, .slice (some ⟨w.heap.size + 1, 0, none⟩) N N] 26) ∧
    wr.rowIs (w.heap.size + 1) 3 N (fun t => .int .i64 (if t / xs.length < k ∧ ((t % xs.length : Nat) : Int) = xs.getD (t / xs.length) 0 then 1 else 0)))
  case atStart =>
    refine ⟨0, Nat.zero_le _, rfl, rfl, below_alloc3 _ _ _ _, ?_, ?_, ?_⟩
    · rw [heap_alloc_low _ _ (by simp; omega), heap_alloc_low _ _ (by simp)]; exact heap_alloc_top _ _
    · exact heap_alloc_at _ _ (by simp)
    · have := World.rowIs_made (w.alloc (.cells #[.int .i64 0, .int .i64 0, .int .i64 0, .slice none 0 0] 26)) (.int .i64 0) N 3
      rw [size_alloc] at this
      exact (this.alloc _).congr fun j _ => by simp
  case round =>
    obtain ⟨k, hk, rfl, rfl, hb, hB0, hB2, hrow⟩ := hrel
    by_cases hlt : k < xs.length
    · obtain ⟨b, off, rfl, hc⟩ := Hxc.out (by omega)
      have hx0 := Hr.out _ (getD_mem hlt)
      obtain ⟨m, hm⟩ := Int.eq_ofNat_of_zero_le hx0.1
      have c1 : wr.cell? ⟨b, off + k, none⟩ = some (.int .i64 (m : Int)) := by
        rw [hb.cell (p := ⟨b, off + k, none⟩) (World.block_lt_of_cell? _ _ (hc k hlt)), hc k hlt]; simp only [iv, hm]
      have hml : m < xs.length := by omega
      have hKn : k * xs.length + m < N := by
        have := HN.out
        have h2 := Nat.mul_le_mul_right xs.length hlt
        rw [Nat.succ_mul] at h2
        omega
      obtain ⟨K, hK, hkr, hkk⟩ := mul_named k xs.length (by omega)
      have Hkr := Lib.hid hkr
      have Hkk := Lib.hid hkk
      clear hkr hkk
      have HK := Lib.hid hK
      have hKm : K + m < N := by omega
      have hb0 : -1000000000000000000 ≤ (K : Int) + (m : Int) := by omega
      have hb1 : (K : Int) + (m : Int) ≤ 1000000000000000000 := by omega
      have Hm := Lib.hid hm
      have hi0 : (0 : Int) ≤ (K : Int) + m := by omega
      have hi1 : (K : Int) + m < (N : Int) := by omega
      have hi2 : ((K : Int) + (m : Int)).toNat = K + m := by omega
      obtain ⟨z, c3⟩ : ∃ z, wr.cell? ⟨w.heap.size + 1, K + m, none⟩ = some (.int .i64 z) := ⟨_, hrow.cell hKm⟩
      have c4 := hrow.frozen (K + m)
      obtain ⟨c20, c21, c22, c23, c2f, hz2⟩ := blk4 hB2
      have Hrow := Lib.hid hrow
      have HB0 := Lib.hid hB0
      have HB2 := Lib.hid hB2
      clear hc hx0 hm hK hKn hrow hB0 hB2
      have hkr := Hkr.out
      have hkk := Hkk.out
      have hs1 := w64 hb0 hb1
      have hs2 := k64 hb0 hb1
      clear hb0 hb1
      go_wp2
      go_still_tail 11, (by kernel_rfl)
      change wpList _ _ _ _ _ wr.drew
      go_wp2
      clear hkr hkk hs1 hs2
      go_roundg (xs.length - (k + 1))
      case measure => omega
      case rel =>
        refine ⟨k + 1, by omega, rfl, by go_num, (hb.setCell (by simp) _).drew, ?_, ?_, ((Hrow.out.set (K + m) _).congr fun t ht => ?_).drew⟩
        · exact (Below.heap_setCell _ _ _ _ (by simp)).trans HB0.out
        · exact (Below.heap_setCell _ _ _ _ (by simp)).trans HB2.out
        · rw [← pm_step Hm.out hml, ← HK.out]
          by_cases e : t = K + m <;> simp [e]
    · obtain ⟨c20, c21, c22, c23, c2f, hz2⟩ := blk4 hB2
      obtain ⟨c00, c01, c02, c03, c0f, hz0⟩ := blk4 hB0
      obtain rfl : k = xs.length := by omega
      have Hrow := Lib.hid hrow
      clear hrow hB0 hB2
      go_wp2
      have hown : OwnI 3 wr (w.heap.size + 1) (w.heap.size + 1 + 1) (.slice (some ⟨w.heap.size + 1, 0, none⟩) N N) (permRows xs).flatten := by
        have hl : (permRows xs).flatten.length = N := by rw [permRows_flat_length]; exact HN.out.symm
        refine OwnF.ints ?_
        rw [hl]
        refine OwnF.mk' (Hrow.out) (Nat.le_refl _) (by omega) (Nat.le_refl _) (by unfold maxLen; omega) fun t ht => ?_
        have ht' : t < xs.length * xs.length := by rw [← HN.out]; exact ht
        rw [iv, permRows_flat_getD ht']
        have hd : t / xs.length < xs.length := Nat.div_lt_of_lt_mul ht'
        simp [hd]
      refine bodyPost_ret (v := .agg #[.int .i64 p, .int .i64 xs.length, .int .i64 xs.length, .slice (some ⟨w.heap.size + 1, 0, none⟩) N N]) (by simp [results, Try.results32, go_sem, c00, c01, c02, c03, hz0]) rfl ⟨_, rfl, ?_, ?_⟩
      · exact (own_set4 hown (.inl (by omega)) _ _ _ _).mono (by omega) (by simp only [size_setCell]; omega)
      · exact below_set4 hb (Nat.le_refl _) _ _ _ _

def permMx (p : Int) (xs : List Int) : Mx := if primeOk p && permOk xs then ⟨p, xs.length, xs.length, (permRows xs).flatten⟩ else mxZero

theorem l7Prime_b (p : Int) (b : Bool) (hb : primeOk p = b) (w : World) :
    Calls Try.prog 57 #[.int .i64 p] w fun e w' => e = .returned (.bool b) ∧ w = w' := hb ▸ l7Prime_any p w
theorem implIsPerm_b (v : Value) (xs : List Int) (b : Bool) (hb : permOk xs = b) (w : World) (h : Ints w v xs) :
    Calls Try.prog 27 #[v] w fun e w' => e = .returned (.bool b) ∧ Below w.heap.size w w' := hb ▸ implIsPerm_any v xs w h

/-- the block of the result, still zero -/
theorem zero_blk {w w1 : World} {T : TypeId} {x0 x1 x2 x3 : Value} (hb : Below (w.alloc (.cells #[x0, x1, x2, x3] T)).heap.size (w.alloc (.cells #[x0, x1, x2, x3] T)) w1) :
    w1.heap[w.heap.size]? = some (.cells #[x0, x1, x2, x3] T (0, 0)) ∧ Below w.heap.size w w1 := by
  refine ⟨?_, (below_alloc w _).trans (hb.mono (by simp))⟩
  rw [hb.block _ (by simp)]; exact heap_alloc_top _ _

theorem permMx_no {p : Int} {xs : List Int} (h : primeOk p = false ∨ permOk xs = false) : permMx p xs = mxZero := by
  unfold permMx
  rcases h with h | h <;> simp [h]
theorem permMx_yes {p : Int} {xs : List Int} (h1 : primeOk p = true) (h2 : permOk xs = true) : permMx p xs = ⟨p, xs.length, xs.length, (permRows xs).flatten⟩ := by simp [permMx, h1, h2]

set_option maxHeartbeats 400000 in
theorem isPrime_b (p : Int) (b : Bool) (hb : primeOk p = b) (w : World) :
    Calls Try.prog 48 #[.int .i64 p] w fun e w' => e = .returned (.bool b) ∧ w = w' := by
  subst hb
  by_cases h2 : p = 2
  · subst h2
    go_enter Try.func48, Try.ntmps48
    go_wp2
    go_ret
    exact ⟨rfl, rfl⟩
  by_cases h3 : p = 3
  · subst h3
    go_enter Try.func48, Try.ntmps48
    go_wp2
    go_ret
    exact ⟨rfl, rfl⟩
  by_cases h5 : p = 5
  · subst h5
    go_enter Try.func48, Try.ntmps48
    go_wp2
    go_ret
    exact ⟨rfl, rfl⟩
  by_cases h7 : p = 7
  · subst h7
    go_enter Try.func48, Try.ntmps48
    go_wp2
    go_ret
    exact ⟨rfl, rfl⟩
  · have e2 : (p == 2) = false := by simp [h2]
    have e3 : (p == 3) = false := by simp [h3]
    have e5 : (p == 5) = false := by simp [h5]
    have e7 : (p == 7) = false := by simp [h7]
    go_enter Try.func48, Try.ntmps48
    go_wp2
    go_ret
    exact ⟨ret_bool (by simp [primeOk, h2, h3, h5, h7]), rfl⟩

theorem permMx_len (p : Int) (xs : List Int) : (permMx p xs).D.length ≤ 1000000 := by
  unfold permMx
  split
  · rename_i h
    simp only [Bool.and_eq_true] at h
    obtain ⟨_, h7, _⟩ := of_decide_eq_true h.2
    show (permRows xs).flatten.length ≤ _
    rw [permRows_flat_length]
    have := Nat.mul_le_mul h7 h7
    omega
  · simp [mxZero]

end Go.Proofs.Ytpfefjdefopccaa

namespace Go.Proofs.Ytpfefjdefopccaa
set_option linter.all false
open Go.RowKit

/-- a matrix: one of the four primes, from 0 to 7 rows of from 1 to 7 numbers, each from 0 on and below the prime -/
def mxOk (P R C : Int) (D : List Int) : Bool :=
  decide (primeOk P = true ∧ (0 ≤ R ∧ R ≤ 7) ∧ (1 ≤ C ∧ C ≤ 7) ∧ (D.length : Int) = R * C ∧ ∀ x ∈ D, 0 ≤ x ∧ x < P)

theorem mxOk_no1 {P R C : Int} {D : List Int} (h : primeOk P = false) : mxOk P R C D = false := by
  simp only [mxOk, decide_eq_false_iff_not]; rintro ⟨h1, _⟩; rw [h] at h1; cases h1
theorem mxOk_no2 {P R C : Int} {D : List Int} (h : ¬ (0 ≤ R ∧ R ≤ 7)) : mxOk P R C D = false := by
  simp only [mxOk, decide_eq_false_iff_not]; exact fun e => h e.2.1
theorem mxOk_no3 {P R C : Int} {D : List Int} (h : ¬ (1 ≤ C ∧ C ≤ 7)) : mxOk P R C D = false := by
  simp only [mxOk, decide_eq_false_iff_not]; exact fun e => h e.2.2.1
theorem mxOk_no4 {P R C : Int} {D : List Int} (h : ¬ (D.length : Int) = R * C) : mxOk P R C D = false := by
  simp only [mxOk, decide_eq_false_iff_not]; exact fun e => h e.2.2.2.1
theorem mxOk_no5 {P R C : Int} {D : List Int} {k : Nat} (hk : k < D.length) (h : ¬ (0 ≤ D.getD k 0 ∧ D.getD k 0 < P)) : mxOk P R C D = false := by
  simp only [mxOk, decide_eq_false_iff_not]; exact fun e => h (e.2.2.2.2 _ (getD_mem hk))
theorem mxOk_yes {P R C : Int} {D : List Int} (h1 : primeOk P = true) (h2 : 0 ≤ R ∧ R ≤ 7) (h3 : 1 ≤ C ∧ C ≤ 7) (h4 : (D.length : Int) = R * C) (h5 : ∀ j, j < D.length → 0 ≤ D.getD j 0 ∧ D.getD j 0 < P) : mxOk P R C D = true := by
  simp only [mxOk, decide_eq_true_eq]
  refine ⟨h1, h2, h3, h4, fun x hx => ?_⟩
  obtain ⟨j, hj, rfl⟩ := List.mem_iff_getElem.1 hx
  have := h5 j hj
  rwa [getD_lt hj] at this
theorem primeOk_range {P : Int} (h : primeOk P = true) : 2 ≤ P ∧ P ≤ 7 := by
  have := of_decide_eq_true h
  omega

set_option maxRecDepth 100000 in
set_option maxHeartbeats 1000000 in
theorem specMatrixOk_any (P R C : Int) (d : Value) (D : List Int) (w : World) (h : Ints w d D) :
    Calls Try.prog 46 #[.agg #[.int .i64 P, .int .i64 R, .int .i64 C, d]] w fun e w' => e = .returned (.bool (mxOk P R C D)) ∧ Below w.heap.size w w' := by
  have hI := Lib.hid h
  obtain ⟨p, cap, rfl, ⟨hx1, hx2⟩, hxc⟩ := h
  have Hxc := Lib.hid hxc
  clear hxc
  unfold maxLen at hx2
  cases hp : primeOk P with
  | false =>
    rw [mxOk_no1 hp]
    have Hp := Lib.hid hp
    clear hp
    go_enter Try.func46, Try.ntmps46
    go_wp2_with (go_at_call 57; refine (l7Prime_b _ _ Hp.out _).mono ?_; rintro e w' ⟨rfl, rfl⟩)
    go_ret
    exact ⟨rfl, below_alloc _ _⟩
  | true =>
    have Hp := Lib.hid hp
    clear hp
    by_cases hR : 0 ≤ R ∧ R ≤ 7
    case neg =>
      rw [mxOk_no2 hR]
      have HR := Lib.hid hR
      clear hR
      go_enter Try.func46, Try.ntmps46
      go_wp2_with (first
        | (go_at_call 57; refine (l7Prime_b _ _ Hp.out _).mono ?_; rintro e w' ⟨rfl, rfl⟩)
        | (go_at_call 45; refine (l1In_no _ _ _ _ HR.out).mono ?_; rintro e w' ⟨rfl, rfl⟩))
      go_ret
      exact ⟨rfl, below_alloc _ _⟩
    by_cases hC : 1 ≤ C ∧ C ≤ 7
    case neg =>
      rw [mxOk_no3 hC]
      have HR := Lib.hid hR
      have HC := Lib.hid hC
      clear hR hC
      go_enter Try.func46, Try.ntmps46
      go_wp2_with (first
        | (go_at_call 57; refine (l7Prime_b _ _ Hp.out _).mono ?_; rintro e w' ⟨rfl, rfl⟩)
        | (go_at_call 45; with_reducible refine (l1In_yes R 0 7 _ HR.out).mono ?_; rintro e w' ⟨rfl, rfl⟩)
        | (go_at_call 45; refine (l1In_no _ _ _ _ HC.out).mono ?_; rintro e w' ⟨rfl, rfl⟩))
      go_ret
      exact ⟨rfl, below_alloc _ _⟩
    have hR' := hR
    have hC' := hC
    obtain ⟨r, rfl⟩ := Int.eq_ofNat_of_zero_le hR.1
    obtain ⟨c, rfl⟩ := Int.eq_ofNat_of_zero_le (show (0 : Int) ≤ C by omega)
    have hrc : r * c ≤ 7 * 7 := Nat.mul_le_mul (by omega) (by omega)
    obtain ⟨N, hN, hwr, hwk⟩ := mul_named r c (by omega)
    have HR := Lib.hid hR'
    have HC := Lib.hid hC'
    have Hwr := Lib.hid hwr
    have Hwk := Lib.hid hwk
    clear hwr hwk hR hC hR' hC'
    have hNi : (N : Int) = (r : Int) * (c : Int) := by rw [hN]; exact Int.natCast_mul r c
    by_cases hl : D.length = N
    case neg =>
      rw [mxOk_no4 (by rw [← hNi]; omega)]
      have hl1 : ((D.length : Int) != (N : Int)) = true := by simp; omega
      have hwr := Hwr.out
      clear hl hN hNi hrc
      go_enter Try.func46, Try.ntmps46
      go_wp2_with (first
        | (go_at_call 57; refine (l7Prime_b _ _ Hp.out _).mono ?_; rintro e w' ⟨rfl, rfl⟩)
        | (go_at_call 45; with_reducible refine (l1In_yes _ 0 7 _ HR.out).mono ?_; rintro e w' ⟨rfl, rfl⟩)
        | (go_at_call 45; with_reducible refine (l1In_yes _ 1 7 _ HC.out).mono ?_; rintro e w' ⟨rfl, rfl⟩))
      go_ret
      exact ⟨rfl, below_alloc _ _⟩
    have hl1 : ((D.length : Int) != (N : Int)) = false := by simp; omega
    have Hl := Lib.hid hl
    have HNi := Lib.hid hNi
    have hwr := Hwr.out
    have hN49 : D.length ≤ 49 := by omega
    clear hl hN hNi hrc
    have Hp2 := Lib.hid (primeOk_range Hp.out)
    go_enter Try.func46, Try.ntmps46
    go_wp2_with (first
      | (go_at_call 57; refine (l7Prime_b _ _ Hp.out _).mono ?_; rintro e w' ⟨rfl, rfl⟩)
      | (go_at_call 45; with_reducible refine (l1In_yes _ 0 7 _ HR.out).mono ?_; rintro e w' ⟨rfl, rfl⟩)
      | (go_at_call 45; with_reducible refine (l1In_yes _ 1 7 _ HC.out).mono ?_; rintro e w' ⟨rfl, rfl⟩))
    clear hwr hl1
    go_loopg [3] D.length (fun g i wr => ∃ k : Nat, k ≤ D.length ∧ g = D.length - k ∧ i = .int .i64 k ∧ Qt (w.alloc (.cells #[.int .i64 P, .int .i64 r, .int .i64 c, .slice p D.length cap] 26)) wr ∧ Hid (∀ j, j < k → 0 ≤ D.getD j 0 ∧ D.getD j 0 < P))
    case atStart => exact ⟨0, Nat.zero_le _, rfl, rfl, Qt.refl _, fun j hj => absurd hj (Nat.not_lt_zero _)⟩
    case round =>
      obtain ⟨k, hk, rfl, rfl, hq, hp⟩ := hrel
      obtain ⟨c0, c1, c2, c3, cf, hz⟩ := blk4 (blk_later (heap_alloc_top w _) (hq.below _))
      by_cases hlt : k < D.length
      · obtain ⟨b, off, rfl, hc⟩ := Hxc.out (by omega)
        have c4 : wr.cell? ⟨b, off + k, none⟩ = some (.int .i64 (D.getD k 0)) :=
          hq.cell ((below_alloc w _).cell (p := ⟨b, off + k, none⟩) (World.block_lt_of_cell? _ _ (hc k hlt)) ▸ hc k hlt)
        have hB : wr.heap.size = w.heap.size + 1 := by rw [hq.size]; simp
        clear hc
        have hP := Hp2.out
        have hwp : IntKind.i64.wrap (P - 1) = P - 1 := IntWalk.i64_in _ (by omega)
        clear hP
        by_cases hin : 0 ≤ D.getD k 0 ∧ D.getD k 0 < P
        · have hd : Hid (0 ≤ D[k] ∧ D[k] ≤ P - 1) := by rw [getD_lt hlt] at hin; unfold Hid; omega
          have Hin := Lib.hid hin
          clear hin
          go_wp2_with fail
          go_quiet (first
            | (go_at_call 45; exact quiet_same (l1In_yes _ _ _ _ hd.out)))
          clear hd hwp
          go_wp2_with fail
          go_roundg (D.length - (k + 1))
          case measure => omega
          case rel =>
            refine ⟨k + 1, by omega, rfl, by go_num, hq.drewN _, fun j hj => ?_⟩
            by_cases e : j = k
            · subst e; exact Hin.out
            · exact hp.out j (by omega)
        · have hd : Hid (¬ (0 ≤ D[k] ∧ D[k] ≤ P - 1)) := by rw [getD_lt hlt] at hin; unfold Hid; omega
          have Hin := Lib.hid hin
          clear hin
          go_wp2_with fail
          go_quiet (first
            | (go_at_call 45; exact quiet_same (l1In_no _ _ _ _ hd.out)))
          clear hd hwp
          go_wp2_with fail
          go_ret
          exact ⟨ret_bool (mxOk_no5 hlt Hin.out).symm, (below_alloc w _).trans ((hq.drewN _).below _)⟩
      · go_wp2_with fail
        go_ret
        exact ⟨ret_bool (mxOk_yes Hp.out HR.out HC.out (by rw [Hl.out]; exact HNi.out) (fun j hj => hp.out j (by omega))).symm, (below_alloc w _).trans (hq.below _)⟩

set_option maxRecDepth 100000 in
set_option maxHeartbeats 1000000 in
theorem implMatrixOk_any (P R C : Int) (d : Value) (D : List Int) (w : World) (h : Ints w d D) :
    Calls Try.prog 36 #[.agg #[.int .i64 P, .int .i64 R, .int .i64 C, d]] w fun e w' => e = .returned (.bool (mxOk P R C D)) ∧ Below w.heap.size w w' := by
  have hI := Lib.hid h
  obtain ⟨p, cap, rfl, ⟨hx1, hx2⟩, hxc⟩ := h
  have Hxc := Lib.hid hxc
  clear hxc
  unfold maxLen at hx2
  cases hp : primeOk P with
  | false =>
    rw [mxOk_no1 hp]
    have Hp := Lib.hid hp
    clear hp
    go_enter Try.func36, Try.ntmps36
    go_wp2_with (go_at_call 48; refine (isPrime_b _ _ Hp.out _).mono ?_; rintro e w' ⟨rfl, rfl⟩)
    go_ret
    exact ⟨rfl, below_alloc _ _⟩
  | true =>
    have Hp := Lib.hid hp
    clear hp
    by_cases hR : 0 ≤ R ∧ R ≤ 7
    case neg =>
      rw [mxOk_no2 hR]
      by_cases hneg : R < 0
      · clear hR
        go_enter Try.func36, Try.ntmps36
        go_wp2_with (go_at_call 48; refine (isPrime_b _ _ Hp.out _).mono ?_; rintro e w' ⟨rfl, rfl⟩)
        go_ret
        exact ⟨rfl, below_alloc _ _⟩
      · have h7 : 7 < R := by omega
        clear hR
        go_enter Try.func36, Try.ntmps36
        go_wp2_with (go_at_call 48; refine (isPrime_b _ _ Hp.out _).mono ?_; rintro e w' ⟨rfl, rfl⟩)
        go_ret
        exact ⟨rfl, below_alloc _ _⟩
    by_cases hC : 1 ≤ C ∧ C ≤ 7
    case neg =>
      rw [mxOk_no3 hC]
      obtain ⟨hR1, hR2⟩ := hR
      have hR1' : ¬ R < 0 := by omega
      have hR2' : ¬ 7 < R := by omega
      by_cases hneg : C < 1
      · clear hC
        go_enter Try.func36, Try.ntmps36
        go_wp2_with (go_at_call 48; refine (isPrime_b _ _ Hp.out _).mono ?_; rintro e w' ⟨rfl, rfl⟩)
        go_ret
        exact ⟨rfl, below_alloc _ _⟩
      · have h7 : 7 < C := by omega
        clear hC
        go_enter Try.func36, Try.ntmps36
        go_wp2_with (go_at_call 48; refine (isPrime_b _ _ Hp.out _).mono ?_; rintro e w' ⟨rfl, rfl⟩)
        go_ret
        exact ⟨rfl, below_alloc _ _⟩
    have hR' := hR
    have hC' := hC
    obtain ⟨r, rfl⟩ := Int.eq_ofNat_of_zero_le hR.1
    obtain ⟨c, rfl⟩ := Int.eq_ofNat_of_zero_le (show (0 : Int) ≤ C by omega)
    have hrc : r * c ≤ 7 * 7 := Nat.mul_le_mul (by omega) (by omega)
    obtain ⟨N, hN, hwr, hwk⟩ := mul_named r c (by omega)
    have HR := Lib.hid hR'
    have HC := Lib.hid hC'
    have Hwr := Lib.hid hwr
    have Hwk := Lib.hid hwk
    have t1 : decide ((r : Int) < 0) = false := decide_eq_false (by omega)
    have t2 : decide (7 < (r : Int)) = false := by simp; omega
    have t3 : decide ((c : Int) < 1) = false := by simp; omega
    have t4 : decide (7 < (c : Int)) = false := by simp; omega
    clear hwr hwk hR hC hR' hC'
    have hNi : (N : Int) = (r : Int) * (c : Int) := by rw [hN]; exact Int.natCast_mul r c
    by_cases hl : D.length = N
    case neg =>
      rw [mxOk_no4 (by rw [← hNi]; omega)]
      have hl1 : ((D.length : Int) != (N : Int)) = true := by simp; omega
      have hwr := Hwr.out
      clear hl hN hNi hrc
      go_enter Try.func36, Try.ntmps36
      go_wp2_with (go_at_call 48; refine (isPrime_b _ _ Hp.out _).mono ?_; rintro e w' ⟨rfl, rfl⟩)
      go_ret
      exact ⟨rfl, below_alloc _ _⟩
    have hl1 : ((D.length : Int) != (N : Int)) = false := by simp; omega
    have Hl := Lib.hid hl
    have HNi := Lib.hid hNi
    have hwr := Hwr.out
    have hN49 : D.length ≤ 49 := by omega
    clear hl hN hNi hrc
    have Hp2 := Lib.hid (primeOk_range Hp.out)
    go_enter Try.func36, Try.ntmps36
    go_wp2_with (go_at_call 48; refine (isPrime_b _ _ Hp.out _).mono ?_; rintro e w' ⟨rfl, rfl⟩)
    clear hwr hl1 t1 t2 t3 t4
    go_loopg [43] D.length (fun g i wr => ∃ k : Nat, k ≤ D.length ∧ g = D.length - k ∧ i = .int .i64 k ∧ wr = (w.alloc (.cells #[.int .i64 P, .int .i64 r, .int .i64 c, .slice p D.length cap] 26)) ∧ Hid (∀ j, j < k → 0 ≤ D.getD j 0 ∧ D.getD j 0 < P))
    case atStart => exact ⟨0, Nat.zero_le _, rfl, rfl, rfl, fun j hj => absurd hj (Nat.not_lt_zero _)⟩
    case round =>
      obtain ⟨k, hk, rfl, rfl, hq, hp⟩ := hrel
      have hq' : Qt (w.alloc (.cells #[.int .i64 P, .int .i64 r, .int .i64 c, .slice p D.length cap] 26)) wr := hq ▸ Qt.refl _
      have Hq := Lib.hid hq
      clear hq
      obtain ⟨c0, c1, c2, c3, cf, hz⟩ := blk4 (blk_later (heap_alloc_top w _) (hq'.below _))
      by_cases hlt : k < D.length
      · obtain ⟨b, off, rfl, hc⟩ := Hxc.out (by omega)
        have c4 : wr.cell? ⟨b, off + k, none⟩ = some (.int .i64 (D.getD k 0)) :=
          hq'.cell ((below_alloc w _).cell (p := ⟨b, off + k, none⟩) (World.block_lt_of_cell? _ _ (hc k hlt)) ▸ hc k hlt)
        clear hc
        by_cases hin : 0 ≤ D.getD k 0 ∧ D.getD k 0 < P
        · have Hin := Lib.hid hin
          have hge0 := getD_lt hlt
          have hd1 : ¬ D[k] < 0 := by omega
          have hd2 : ¬ P ≤ D[k] := by omega
          clear hin hge0
          go_wp2_with fail
          go_roundg (D.length - (k + 1))
          case measure => omega
          case rel =>
            refine ⟨k + 1, by omega, rfl, by go_num, Hq.out, fun j hj => ?_⟩
            by_cases e : j = k
            · subst e; exact Hin.out
            · exact hp.out j (by omega)
        · have Hin := Lib.hid hin
          have hge0 := getD_lt hlt
          by_cases hneg : D[k] < 0
          · clear hin hge0
            go_wp2_with fail
            go_ret
            exact ⟨ret_bool (mxOk_no5 hlt Hin.out).symm, (below_alloc w _).trans (hq'.below _)⟩
          · have hge : P ≤ D[k] := by omega
            clear hin hge0
            go_wp2_with fail
            go_ret
            exact ⟨ret_bool (mxOk_no5 hlt Hin.out).symm, (below_alloc w _).trans (hq'.below _)⟩
      · go_wp2_with fail
        go_ret
        exact ⟨ret_bool (mxOk_yes Hp.out HR.out HC.out (by rw [Hl.out]; exact HNi.out) (fun j hj => hp.out j (by omega))).symm, (below_alloc w _).trans (hq'.below _)⟩

end Go.Proofs.Ytpfefjdefopccaa
