/-
  Slices of matrices: what they hold; compared, marked, looked through by the law's own helpers.
-/
import Derived.Test.YtejoapielndnnaaStru
import Derived.Test.YtejoapielndnnaaLawII
import Derived.Test.YtejoapielndnnaaHeld
namespace Go.Proofs.Ytejoapielndnnaa
set_option linter.all false
open Go.RowKit

/-- the fields of matrices, the numbers' slices being f -/
def mxF (ms : List Mx) (f : Nat → Value) (i j : Nat) : Value :=
  match j with
  | 0 => .int .i64 (ms.getD i mxZero).P
  | 1 => .int .i64 (ms.getD i mxZero).R
  | 2 => .int .i64 (ms.getD i mxZero).C
  | _ => f i
/-- a slice of matrices that reads as a list -/
def RdMs (w : World) (v : Value) (ms : List Mx) : Prop := ∃ f, RdS w 4 v ms.length (mxF ms f) ∧ ∀ i, i < ms.length → Ints w (f i) (ms.getD i mxZero).D
/-- a slice of matrices that a call made -/
def OwnMs (w : World) (lo hi : Nat) (v : Value) (ms : List Mx) : Prop :=
  ∃ f, OwnS w lo hi 27 4 v ms.length (mxF ms f) ∧ (∀ i, i < ms.length → OwnI 3 w lo hi (f i) (ms.getD i mxZero).D) ∧
    ∀ i j, i < j → j < ms.length → ∀ k, (f i).ownBlock = some k → (f j).ownBlock ≠ some k
theorem RdMs.below {w w' : World} {v : Value} {ms : List Mx} (h : RdMs w v ms) (hb : Below w.heap.size w w') : RdMs w' v ms := by
  obtain ⟨f, h1, h2⟩ := h
  exact ⟨f, h1.below hb, fun i hi => (h2 i hi).below hb⟩
theorem RdMs.qt {w w' : World} {v : Value} {ms : List Mx} (h : RdMs w v ms) (q : Qt w w') : RdMs w' v ms := h.below (q.below _)
namespace OwnMs
variable {w w' : World} {lo hi : Nat} {v : Value} {ms : List Mx}
theorem rd (h : OwnMs w lo hi v ms) : RdMs w v ms := by
  obtain ⟨f, h1, h2, _⟩ := h
  exact ⟨f, h1.rd, fun i hi => (h2 i hi).ints⟩
theorem keep (h : OwnMs w lo hi v ms) (hb : ∀ k, lo ≤ k → k < hi → k < w.heap.size → w'.heap[k]? = w.heap[k]?) : OwnMs w' lo hi v ms := by
  obtain ⟨f, h1, h2, h3⟩ := h
  exact ⟨f, h1.keep hb, fun i hi => Own.keep (h2 i hi) hb, h3⟩
theorem below (h : OwnMs w lo hi v ms) (hb : Below w.heap.size w w') : OwnMs w' lo hi v ms := h.keep fun k _ _ h3 => hb.block k h3
theorem frm {lo' hi' : Nat} (h : OwnMs w lo hi v ms) (hb : Frm lo' hi' w w') (ho : hi ≤ lo' ∨ hi' ≤ lo) : OwnMs w' lo hi v ms := h.keep fun k h1 h2 h3 => hb.block k h3 (by omega)
theorem mono {lo' hi' : Nat} (h : OwnMs w lo hi v ms) (h1 : lo' ≤ lo) (h2 : hi ≤ hi') : OwnMs w lo' hi' v ms := by
  obtain ⟨f, g1, g2, g3⟩ := h
  exact ⟨f, g1.mono h1 h2, fun i hi => (g2 i hi).mono h1 h2, g3⟩
theorem shape (h : OwnMs w lo hi v ms) : ∃ p cap, v = .slice p ms.length cap ∧ ms.length ≤ cap ∧ cap ≤ maxLen := by
  obtain ⟨f, h1, _⟩ := h
  obtain ⟨p, cap, e, h2, h3, _⟩ := h1.shape
  exact ⟨p, cap, e, h2, h3⟩
theorem nil (w : World) (lo hi : Nat) : OwnMs w lo hi (.slice none 0 0) [] := ⟨fun _ => undef, OwnS.nil _ _ _ _ _ _, fun i hi => absurd hi (Nat.not_lt_zero _), fun i j _ hj => absurd hj (Nat.not_lt_zero _)⟩
theorem made0 (w : World) : OwnMs (w.alloc (.cells #[] 27)) w.heap.size (w.heap.size + 1) (.slice (some ⟨w.heap.size, 0, none⟩) 0 0) [] :=
  ⟨fun _ => undef, OwnS.made0 _ _ _ _, fun i hi => absurd hi (Nat.not_lt_zero _), fun i j _ hj => absurd hj (Nat.not_lt_zero _)⟩
theorem getD_snoc {ms : List Mx} {m : Mx} {i : Nat} : (ms ++ [m]).getD i mxZero = if i < ms.length then ms.getD i mxZero else if i = ms.length then m else mxZero := by
  by_cases h : i < ms.length
  · rw [if_pos h]; simp [List.getD_eq_getElem?_getD, List.getElem?_append_left h]
  · rw [if_neg h]
    by_cases e : i = ms.length
    · subst e; simp [List.getD_eq_getElem?_getD]
    · rw [if_neg e]; simp [List.getD_eq_getElem?_getD]; rw [List.getElem?_eq_none (by simp; omega)]; rfl
/-- a matrix of its own is put behind the others -/
theorem snoc {v' x : Value} {m : Mx} {mid : Nat} {f : Nat → Value} (g1 : OwnS w lo mid 27 4 v ms.length (mxF ms f)) (g2 : ∀ i, i < ms.length → OwnI 3 w lo mid (f i) (ms.getD i mxZero).D)
    (g3 : ∀ i j, i < j → j < ms.length → ∀ k, (f i).ownBlock = some k → (f j).ownBlock ≠ some k) (hx : OwnI 3 w mid hi x m.D) (hm : lo ≤ mid) (hmh : mid ≤ hi)
    (hg : w.grownBy w' v.ownBlock) (hsz : hi ≤ w'.heap.size)
    (hv : OwnS w' lo w'.heap.size 27 4 v' (ms.length + 1) (fun i => if i < ms.length then mxF ms f i else fun j => match j with | 0 => .int .i64 m.P | 1 => .int .i64 m.R | 2 => .int .i64 m.C | _ => x)) : OwnMs w' lo w'.heap.size v' (ms ++ [m]) := by
  have hrow : ∀ (y : Value) (ys : List Int) (lo1 hi1 : Nat), OwnI 3 w lo1 hi1 y ys → OwnI 3 w' lo1 hi1 y ys := fun y ys lo1 hi1 hy =>
    ⟨ownsRow_of_block hy.1 fun k hk => hg.block k (Own.block hy hk).2.2 fun e => ne_of_kinds (g1.kind k e.symm) (OwnI.kind hy k hk) (by decide), hy.2⟩
  refine ⟨fun i => if i < ms.length then f i else x, by
    rw [List.length_append]
    refine hv.congr fun i hi j hj => ?_
    by_cases h : i < ms.length
    · simp only [h, if_true]
      unfold mxF
      rw [getD_snoc, if_pos h]
      match j, hj with
      | 0, _ => rfl
      | 1, _ => rfl
      | 2, _ => rfl
      | 3, _ => simp only [h, if_true]
    · have : i = ms.length := by omega
      simp only [h, if_false]
      unfold mxF
      rw [getD_snoc, if_neg h, if_pos this]
      match j, hj with
      | 0, _ => rfl
      | 1, _ => rfl
      | 2, _ => rfl
      | 3, _ => simp only [h, if_false], fun i hi => ?_, fun i j hij hj k hk => ?_⟩
  · rw [List.length_append] at hi
    simp only [List.length_singleton] at hi
    rw [getD_snoc]
    by_cases h : i < ms.length
    · simp only [h, if_true]
      exact (hrow _ _ _ _ (g2 i h)).mono (Nat.le_refl _) (by omega)
    · have : i = ms.length := by omega
      simp only [h, if_false]
      rw [if_pos this]
      exact (hrow _ _ _ _ hx).mono hm hsz
  · rw [List.length_append] at hj
    simp only [List.length_singleton] at hj
    simp only [show i < ms.length by omega, if_true] at hk
    by_cases h : j < ms.length
    · simp only [h, if_true]
      exact g3 i j hij h k hk
    · simp only [h, if_false]
      intro e
      have h5 := (Own.block (g2 i (by omega)) hk).2.1
      have h6 := (Own.block hx e).1
      omega
end OwnMs

/-- where the i-th matrix lies -/
theorem RdS.four {w : World} {v : Value} {ms : List Mx} {f : Nat → Value} (h : RdS w 4 v ms.length (mxF ms f)) : ∃ p cap, v = .slice p ms.length cap ∧ (ms.length ≤ cap ∧ cap ≤ maxLen) ∧
    (0 < ms.length → ∃ b, p = some ⟨b, 0, none⟩ ∧ ∀ i, i < ms.length → w.cell? ⟨b, i * 4, none⟩ = some (.int .i64 (ms.getD i mxZero).P) ∧ w.cell? ⟨b, i * 4 + 1, none⟩ = some (.int .i64 (ms.getD i mxZero).R) ∧ w.cell? ⟨b, i * 4 + 2, none⟩ = some (.int .i64 (ms.getD i mxZero).C) ∧ w.cell? ⟨b, i * 4 + 3, none⟩ = some (f i)) := by
  obtain ⟨p, cap, rfl, hm, h⟩ := h
  refine ⟨p, cap, rfl, hm, fun h0 => ?_⟩
  obtain ⟨b, hp, hx⟩ := h h0
  exact ⟨b, hp, fun i hi => ⟨hx i hi 0 (by omega), hx i hi 1 (by omega), hx i hi 2 (by omega), hx i hi 3 (by omega)⟩⟩

set_option maxRecDepth 100000 in
set_option maxHeartbeats 1000000 in
/-- two equal lists of matrices -/
theorem eqMatrixS_same (v1 v2 : Value) (ms : List Mx) (w : World) (h1 : RdMs w v1 ms) (h2 : RdMs w v2 ms) :
    Calls Try.prog 16 #[v1, v2] w fun e w' => e = .returned (.bool true) ∧ Below w.heap.size w w' := by
  obtain ⟨f, hs1, hf⟩ := h1
  obtain ⟨g, hs2, hg⟩ := h2
  obtain ⟨p, cap, rfl, ⟨hx1, hx⟩, hxc⟩ := hs1.four
  obtain ⟨q, cap', rfl, ⟨hy1, hy⟩, hyc⟩ := hs2.four
  unfold maxLen at hx hy
  have Hf := Lib.hid hf
  have Hg := Lib.hid hg
  have Hxc := Lib.hid hxc
  have Hyc := Lib.hid hyc
  clear hf hg hs1 hs2 hxc hyc
  go_enter Try.func16, Try.ntmps16
  go_wp2
  go_loopg [5] ms.length (fun n i wr => ∃ k : Nat, k ≤ ms.length ∧ n = ms.length - k ∧ i = .int .i64 k ∧ Below w.heap.size w wr)
  case atStart => exact ⟨0, Nat.zero_le _, rfl, rfl, Below.refl _ _⟩
  case round =>
    obtain ⟨k, hk, rfl, rfl, hb⟩ := hrel
    by_cases hlt : k < ms.length
    · obtain ⟨b, rfl, hc⟩ := Hxc.out (by omega)
      obtain ⟨b', rfl, hc'⟩ := Hyc.out (by omega)
      obtain ⟨a0, a1, a2, a3⟩ := hc k hlt
      obtain ⟨b0, b1, b2, b3⟩ := hc' k hlt
      have c0 := cell_below hb a0
      have c1 := cell_below hb a1
      have c2 := cell_below hb a2
      have c3 := cell_below hb a3
      have d0 := cell_below hb b0
      have d1 := cell_below hb b1
      have d2 := cell_below hb b2
      have d3 := cell_below hb b3
      obtain ⟨p1, k1, e1, _, _⟩ := Hf.out k hlt
      obtain ⟨p2, k2, e2, _, _⟩ := Hg.out k hlt
      have I1 := Lib.hid ((Hf.out k hlt).below hb)
      have I2 := Lib.hid ((Hg.out k hlt).below hb)
      generalize ms.getD k mxZero = M at *
      obtain ⟨P, R, C, ys⟩ := M
      dsimp only at e1 e2 c0 c1 c2 d0 d1 d2 I1 I2
      rw [e1] at c3 I1
      rw [e2] at d3 I2
      clear hc hc' e1 e2 a0 a1 a2 a3 b0 b1 b2 b3
      go_wp2_with fail
      obtain ⟨wo, rfl⟩ : ∃ x : World, x = wr := ⟨_, rfl⟩
      go_region_held3 (fun w' => (w'.cell? ⟨b, k * 4, none⟩ = some (.int .i64 P) ∧ w'.cell? ⟨b, k * 4 + 1, none⟩ = some (.int .i64 R) ∧ w'.cell? ⟨b, k * 4 + 2, none⟩ = some (.int .i64 C) ∧ w'.cell? ⟨b, k * 4 + 3, none⟩ = some (.slice p1 ys.length k1) ∧ w'.cell? ⟨b', k * 4, none⟩ = some (.int .i64 P) ∧ w'.cell? ⟨b', k * 4 + 1, none⟩ = some (.int .i64 R) ∧ w'.cell? ⟨b', k * 4 + 2, none⟩ = some (.int .i64 C) ∧ w'.cell? ⟨b', k * 4 + 3, none⟩ = some (.slice p2 ys.length k2)) ∧ Below wo.heap.size wo w')
        (first | exact ⟨⟨c0, c1, c2, c3, d0, d1, d2, d3⟩, (Below.refl _ _).drew⟩ | exact keep8 hb1 (by assumption))
        (first
          | (go_at_call 12; refine (eqMatrix_same _ _ _ _ _ ys _ (held_ints I1.out (by assumption)) (held_ints I2.out (by assumption))).mono ?_; rintro e w' ⟨rfl, hb1⟩))
      have hbw : Below wo.heap.size wo _ := held_below (by assumption)
      go_wp2_with fail
      go_roundg (ms.length - (k + 1))
      case measure => omega
      case rel => exact ⟨k + 1, by omega, rfl, by go_num, hb.trans (hbw.mono hb.size)⟩
    · go_wp2
      go_ret
      exact ⟨rfl, hb⟩

/-- how many numbers the first k matrices have, three besides for each -/
def preM (ms : List Mx) (k : Nat) : Nat := ((ms.take k).map fun m => 3 + m.D.length).sum
theorem preM_zero (ms : List Mx) : preM ms 0 = 0 := by simp [preM]
theorem preM_succ (ms : List Mx) (k : Nat) (h : k < ms.length) : preM ms (k + 1) = preM ms k + (3 + (ms.getD k mxZero).D.length) := by
  have e : ms[k]? = some (ms.getD k mxZero) := by rw [List.getD_eq_getElem?_getD, List.getElem?_eq_getElem h]; rfl
  unfold preM
  rw [List.take_add_one, e, List.map_append, List.sum_append]
  simp
theorem preM_le (ms : List Mx) (k : Nat) : preM ms k ≤ preM ms ms.length := by
  have e : (ms.map fun m => 3 + m.D.length).sum = ((ms.take k).map fun m => 3 + m.D.length).sum + ((ms.drop k).map fun m => 3 + m.D.length).sum := by
    rw [← List.sum_append, ← List.map_append, List.take_append_drop]
  unfold preM
  rw [List.take_of_length_le (Nat.le_refl _)]
  omega
/-- a matrix written over by m, m+1, .. -/
def runMx (m : Int) (n : Nat) : Mx := ⟨m, m + 1, m + 2, runs (m + 3) n⟩
def runsMs (m : Int) (ms : List Mx) : List Mx := (List.range ms.length).map fun i => runMx (m + preM ms i) (ms.getD i mxZero).D.length
theorem length_runsMs (m : Int) (ms : List Mx) : (runsMs m ms).length = ms.length := by simp [runsMs]
theorem getD_runsMs (m : Int) (ms : List Mx) {i : Nat} (h : i < ms.length) : (runsMs m ms).getD i mxZero = runMx (m + preM ms i) (ms.getD i mxZero).D.length := by
  simp [runsMs, List.getD_eq_getElem?_getD, h]
/-- the first k are marked -/
def markF (m : Int) (ms : List Mx) (f : Nat → Value) (k i j : Nat) : Value := if i < k then mxF (runsMs m ms) f i j else mxF ms f i j
theorem markF_next (m : Int) (ms : List Mx) (f : Nat → Value) {k : Nat} (hk : k < ms.length) : ∀ i, i < ms.length → ∀ j, j < 4 →
    (if i = k ∧ j = 2 then Value.int .i64 (m + preM ms k + 1 + 1) else if i = k ∧ j = 1 then .int .i64 (m + preM ms k + 1) else if i = k ∧ j = 0 then .int .i64 (m + preM ms k) else markF m ms f k i j) = markF m ms f (k + 1) i j := by
  intro i hi j hj
  unfold markF
  by_cases e : i = k
  · subst e
    rw [if_pos (show i < i + 1 by omega), if_neg (Nat.lt_irrefl i)]
    unfold mxF
    rw [getD_runsMs m ms hk]
    match j, hj with
    | 0, _ => simp [runMx]
    | 1, _ => simp [runMx]
    | 2, _ => simp [runMx]; omega
    | 3, _ => simp
  · simp only [e, false_and, if_false]
    by_cases h : i < k
    · rw [if_pos h, if_pos (by omega)]
    · rw [if_neg h, if_neg (by omega)]

set_option maxRecDepth 100000 in
set_option maxHeartbeats 1000000 in
theorem markMatrixS_any (v : Value) (ms : List Mx) (lo hi : Nat) (m : Int) (w : World) (h : OwnMs w lo hi v ms) (h0 : 0 ≤ m) (h1 : m + preM ms ms.length ≤ 1000000000000) :
    Calls Try.prog 18 #[v, .int .i64 m] w fun e w' => e = .returned (.int .i64 (m + preM ms ms.length)) ∧ OwnMs w' lo hi v (runsMs m ms) ∧ Frm lo hi w w' := by
  obtain ⟨f, g1, g2, g3⟩ := h
  obtain ⟨p, cap, rfl, hnc, hcm, hp⟩ := g1.shape
  unfold maxLen at hcm
  have G1 := Lib.hid g1
  have G2 := Lib.hid g2
  have G3 := Lib.hid g3
  have Hp := Lib.hid hp
  clear g1 g2 g3 hp
  go_enter Try.func18, Try.ntmps18
  go_wp2
  go_loopg [1, 5] ms.length (fun n s1 i wr => ∃ k : Nat, k ≤ ms.length ∧ n = ms.length - k ∧ i = .int .i64 k ∧ s1 = .int .i64 (m + preM ms k) ∧ Frm lo hi w wr ∧
    Hid (OwnS wr lo hi 27 4 (.slice p ms.length cap) ms.length (markF m ms f k) ∧ ∀ i, i < ms.length → OwnI 3 wr lo hi (f i) (if i < k then runs (m + preM ms i + 3) (ms.getD i mxZero).D.length else (ms.getD i mxZero).D)))
  case atStart => exact ⟨0, Nat.zero_le _, rfl, rfl, by simp [preM_zero], Frm.refl _ _ _, ⟨G1.out.congr fun i hi j hj => by simp [markF], fun i hi => by simpa using G2.out i hi⟩⟩
  case round =>
    obtain ⟨k, hk, rfl, rfl, rfl, hb, hr⟩ := hrel
    by_cases hlt : k < ms.length
    · obtain ⟨g, rfl, hg1, hg2, hg3⟩ := Hp.out (by omega)
      have hS := hr.out.1
      have c0 := hS.cell hlt (show 0 < 4 by omega)
      have c1 := hS.cell hlt (show 1 < 4 by omega)
      have c2 := hS.cell hlt (show 2 < 4 by omega)
      have c3 := hS.cell hlt (show 3 < 4 by omega)
      have z0 := hS.frozen (k * 4)
      have z1 := hS.frozen (k * 4 + 1)
      have z2 := hS.frozen (k * 4 + 2)
      rw [Nat.add_zero] at c0
      have ef : markF m ms f k k 3 = f k := by unfold markF; rw [if_neg (Nat.lt_irrefl k)]; rfl
      rw [ef] at c3
      generalize markF m ms f k k 0 = y0 at c0
      generalize markF m ms f k k 1 = y1 at c1
      generalize markF m ms f k k 2 = y2 at c2
      have ho := hr.out.2 k hlt
      rw [if_neg (Nat.lt_irrefl k)] at ho
      obtain ⟨p1, k1, e1, _, _⟩ := ho.shape
      obtain ⟨lo', hi', ht, hin⟩ := ho.tight
      have Hb := Lib.hid fun b hb => Own.block ho (k := b) hb
      have He := Lib.hid e1
      have hne : ∀ b, lo' ≤ b → b < hi' → b ≠ g := fun b h1 h2 e => by
        have h3 := (hin b h1 h2).1
        subst e
        exact ne_of_kinds (OwnI.kind ho b h3) (hS.kind b rfl) (by decide)
      have hgo : g < lo' ∨ hi' ≤ g := by
        rcases Classical.em (g < lo' ∨ hi' ≤ g) with h | h
        · exact h
        · exact absurd rfl (hne g (by omega) (by omega))
      rw [e1] at ht
      have Hin := Lib.hid hin
      have Hpp := Lib.hid (preM_succ ms k hlt)
      have hle := preM_le ms (k + 1)
      rw [Hpp.out] at hle
      rw [e1] at c3
      have ht3 := OwnI.setCell (OwnI.setCell (OwnI.setCell ht (a := ⟨g, k * 4, none⟩) hgo (.int .i64 (m + preM ms k))) (a := ⟨g, k * 4 + 1, none⟩) hgo (.int .i64 (m + preM ms k + 1))) (a := ⟨g, k * 4 + 2, none⟩) hgo (.int .i64 (m + preM ms k + 1 + 1))
      have hs3 := ((hS.set hlt (show 0 < 4 by omega) (.int .i64 (m + preM ms k))).set hlt (show 1 < 4 by omega) (.int .i64 (m + preM ms k + 1))).set hlt (show 2 < 4 by omega) (.int .i64 (m + preM ms k + 1 + 1))
      rw [Nat.add_zero] at hs3
      have hs4 := hs3.congr (markF_next m ms f hlt)
      have hf3 := ((hb.setCell (p := ⟨g, k * 4, none⟩) hg1 hg2 (.int .i64 (m + preM ms k))).setCell (p := ⟨g, k * 4 + 1, none⟩) hg1 hg2 (.int .i64 (m + preM ms k + 1))).setCell (p := ⟨g, k * 4 + 2, none⟩) hg1 hg2 (.int .i64 (m + preM ms k + 1 + 1))
      have ho3 : ∀ i, i < ms.length → OwnI 3 (((wr.setCell ⟨g, k * 4, none⟩ (.int .i64 (m + preM ms k))).setCell ⟨g, k * 4 + 1, none⟩ (.int .i64 (m + preM ms k + 1))).setCell ⟨g, k * 4 + 2, none⟩ (.int .i64 (m + preM ms k + 1 + 1))) lo hi (f i) (if i < k then runs (m + preM ms i + 3) (ms.getD i mxZero).D.length else (ms.getD i mxZero).D) := fun i hi => by
        have h1 := hr.out.2 i hi
        have hn : ∀ b, (f i).ownBlock = some b → b ≠ g := fun b hb e => by
          subst e
          exact ne_of_kinds (OwnI.kind h1 b hb) (hS.kind b rfl) (by decide)
        refine ⟨ownsRow_of_block h1.1 fun b hb => ?_, h1.2⟩
        rw [Below.heap_setCell _ _ _ _ (show b ≠ (⟨g, k * 4 + 2, none⟩ : Addr).block from hn b hb), Below.heap_setCell _ _ _ _ (show b ≠ (⟨g, k * 4 + 1, none⟩ : Addr).block from hn b hb), Below.heap_setCell _ _ _ _ (show b ≠ (⟨g, k * 4, none⟩ : Addr).block from hn b hb)]
      have Hs4 := Lib.hid hs4
      have Hf3 := Lib.hid hf3
      have Ho3 := Lib.hid ho3
      have HL := Lib.hid (show (ms.getD k mxZero).D.length = (ms.getD k mxZero).D.length from rfl)
      clear hS hs3 hs4 hf3 ho3 ho hin ef e1 hne hr
      generalize hLd : (ms.getD k mxZero).D = Dk at *
      generalize hLn : Dk.length = L at *
      generalize hR : preM ms k = R at *
      have hc := fun (W : World) (hW : OwnI 3 W lo' hi' (.slice p1 L k1) Dk) => markIntS_any _ Dk lo' hi' (m + R + 1 + 1 + 1) W hW (by omega) (by omega)
      rw [hLn] at hc
      have Hc := Lib.hid hc
      have Ht := Lib.hid ht3
      have HLd := Lib.hid hLd
      have HLn := Lib.hid hLn
      have HR := Lib.hid hR
      clear hc ht ht3 hLd hLn hR HL hgo
      go_wp2_with fail
      refine (Hc.out _ Ht.out).mono ?_
      rintro e w1 ⟨rfl, ho1, hf1⟩
      have Ho1 := Lib.hid ho1
      clear ho1
      go_wp2_with fail
      go_roundg (ms.length - (k + 1))
      case measure => omega
      case rel =>
        have hrng : ∀ b, ¬ (b < lo' ∨ hi' ≤ b) → (f k).ownBlock = some b ∧ lo ≤ b ∧ b < hi := fun b hb => Hin.out b (by omega) (by omega)
        refine ⟨k + 1, by omega, rfl, by go_num, by rw [Hpp.out]; go_num, Hf3.out.trans ⟨hf1.os, hf1.tape, hf1.output, hf1.size, fun b hb ho => hf1.block b hb ?_⟩, ⟨Hs4.out.besides hf1 fun b hb => ?_, fun i hil => ?_⟩⟩
        · rcases Classical.em (b < lo' ∨ hi' ≤ b) with h | h
          · exact h
          · have := hrng b h; omega
        · rcases Classical.em (b < lo' ∨ hi' ≤ b) with h | h
          · exact h
          · exact (ne_of_kinds (OwnI.kind (Ho3.out k hlt) b (hrng b h).1) (Hs4.out.kind b hb) (by decide)).elim
        · by_cases e : i = k
          · subst e
            rw [if_pos (by omega), HR.out, HLd.out, HLn.out, He.out]
            have h5 := Ho1.out.widen (lo := lo) (hi := hi) fun b hb => by
              have := Hb.out b (by rw [He.out]; exact hb)
              omega
            rw [show m + (R : Int) + 3 = m + R + 1 + 1 + 1 by omega]
            exact h5
          · have e2 : (if i < k + 1 then runs (m + preM ms i + 3) (ms.getD i mxZero).D.length else (ms.getD i mxZero).D) = (if i < k then runs (m + preM ms i + 3) (ms.getD i mxZero).D.length else (ms.getD i mxZero).D) := by
              by_cases h1 : i < k
              · rw [if_pos h1, if_pos (by omega)]
              · rw [if_neg h1, if_neg (by omega)]
            rw [e2]
            refine (Ho3.out i hil).besides hf1 fun b hb => ?_
            rcases Classical.em (b < lo' ∨ hi' ≤ b) with h | h
            · exact h
            · have h3 := (hrng b h).1
              rcases Nat.lt_or_gt_of_ne e with h4 | h4
              · exact (G3.out i k h4 hlt b hb h3).elim
              · exact (G3.out k i h4 hil b h3 hb).elim
    · go_wp2
      go_ret
      obtain rfl : k = ms.length := by omega
      refine ⟨rfl, ⟨f, ?_, fun i hi => ?_, fun i j hij hj => ?_⟩, hb⟩
      · rw [length_runsMs]
        exact hr.out.1.congr fun i hi j hj => by unfold markF; rw [if_pos hi]
      · rw [length_runsMs] at hi
        rw [getD_runsMs m ms hi]
        have := hr.out.2 i hi
        rw [if_pos hi] at this
        exact this
      · rw [length_runsMs] at hj
        exact G3.out i j hij hj

set_option maxRecDepth 100000 in
set_option maxHeartbeats 1000000 in
theorem heldMatrixS_runs (v : Value) (ms : List Mx) (m : Int) (w : World) (h : RdMs w v (runsMs m ms)) (h0 : 0 ≤ m) (h1 : m + preM ms ms.length ≤ 1000000000000) :
    Calls Try.prog 19 #[v, .int .i64 m] w fun e w' => e = .returned (.int .i64 (m + preM ms ms.length)) ∧ Below w.heap.size w w' := by
  obtain ⟨f, hs, hf⟩ := h
  obtain ⟨p, cap, rfl, ⟨hx1, hx⟩, hxc⟩ := hs.four
  rw [length_runsMs] at *
  unfold maxLen at hx
  have Hf := Lib.hid hf
  have Hxc := Lib.hid hxc
  clear hf hs hxc
  go_enter Try.func19, Try.ntmps19
  go_wp2
  go_loopg [1, 5] ms.length (fun n s1 i wr => ∃ k : Nat, k ≤ ms.length ∧ n = ms.length - k ∧ i = .int .i64 k ∧ s1 = .int .i64 (m + preM ms k) ∧ Below w.heap.size w wr)
  case atStart => exact ⟨0, Nat.zero_le _, rfl, rfl, by simp [preM_zero], Below.refl _ _⟩
  case round =>
    obtain ⟨k, hk, rfl, rfl, rfl, hb⟩ := hrel
    by_cases hlt : k < ms.length
    · obtain ⟨b, rfl, hc⟩ := Hxc.out (by omega)
      obtain ⟨a0, a1, a2, a3⟩ := hc k hlt
      have I := (Hf.out k hlt).below hb
      rw [getD_runsMs m ms hlt] at a0 a1 a2 I
      dsimp only [runMx] at a0 a1 a2 I
      have c0 := cell_below hb a0
      have c1 := cell_below hb a1
      have c2 := cell_below hb a2
      have c3 := cell_below hb a3
      obtain ⟨p1, k1, e1, ⟨_, _⟩, _⟩ := id I
      rw [length_runs] at e1
      have Hpp := Lib.hid (preM_succ ms k hlt)
      have hle := preM_le ms (k + 1)
      rw [Hpp.out] at hle
      rw [e1] at c3 I
      generalize hL : (ms.getD k mxZero).D.length = L at c3 hle I
      generalize hR : preM ms k = R at hle I c0 c1 c2
      have e2 : m + (R : Int) + 2 = m + R + 1 + 1 := by omega
      have e3 : m + (R : Int) + 3 = m + R + 1 + 1 + 1 := by omega
      rw [e2] at c2
      rw [e3] at I
      have HL := Lib.hid hL
      have HR := Lib.hid hR
      have HI := Lib.hid I
      clear hc e1 hL hR I e2 e3 a0 a1 a2 a3
      go_wp2_with fail
      refine (heldIntS_runs _ L _ _ HI.out (by omega) (by omega)).mono ?_
      rintro e w1 ⟨rfl, hb1⟩
      go_wp2_with fail
      go_roundg (ms.length - (k + 1))
      case measure => omega
      case rel => exact ⟨k + 1, by omega, rfl, by go_num, by rw [Hpp.out, HR.out, HL.out]; go_num, hb.trans (hb1.mono hb.size)⟩
    · go_wp2
      go_ret
      obtain rfl : k = ms.length := by omega
      exact ⟨rfl, hb⟩

end Go.Proofs.Ytejoapielndnnaa
