/-
  l7Corner, CornerRank. (DRAFT)
-/
import Derived.Test.YtmnlpkmnbjoicaaRank
namespace Go.Proofs.Ytmnlpkmnbjoicaa
set_option linter.all false
open Go.RowKit

/-- the first i rows of a corner of b columns -/
def cornL (c b : Nat) (D : List Int) (i : Nat) : List Int := (List.range (i * b)).map fun t => D.getD ((t / b) * c + t % b) 0
theorem cornL_length (c b : Nat) (D : List Int) (i : Nat) : (cornL c b D i).length = i * b := by simp [cornL]
theorem cornL_getD {c b : Nat} {D : List Int} {i k j : Nat} (hk : k < i) (hj : j < b) : (cornL c b D i).getD (k * b + j) 0 = D.getD (k * c + j) 0 := by
  have h := mul_le_of (C := b) hk
  rw [Nat.add_mul, Nat.one_mul] at h
  obtain ⟨d1, d2⟩ := div_at (k := k) hj
  simp [cornL, List.getD_eq_getElem?_getD, show k * b + j < i * b by omega, d1, d2]

theorem cornL_mono {c b : Nat} {D : List Int} {i t : Nat} (h : t < i * b) : (cornL c b D i).getD t 0 = (cornL c b D (i + 1)).getD t 0 := by
  have h2 : t < (i + 1) * b := by rw [Nat.add_mul]; omega
  simp [cornL, List.getD_eq_getElem?_getD, h, h2]
theorem own_box {w : World} {lo hi : Nat} {Ti T : TypeId} {v : Value} {n b : Nat} {f : Nat → Value} {cs : Array Value} (h : OwnF w lo hi Ti v n f) (hz : w.heap[b]? = some (.cells cs T (0, 0))) (hT : Ti ≠ T) : v.ownBlock ≠ some b := by
  intro hv
  obtain ⟨zs, hz', _⟩ := h
  rcases Own.row hz' with ⟨e1, _⟩ | ⟨g, cap', F, e1, _, _, _, _, hr, _⟩
  · rw [e1] at hv; simp [Value.ownBlock] at hv
  · rw [e1] at hv
    simp only [Value.ownBlock, Option.some.injEq] at hv
    subst hv
    obtain ⟨c, hc, _⟩ := hr
    rw [hz] at hc
    injection hc with hc
    injection hc with _ hc
    exact hT hc.symm

theorem oper_append_F {P : Program} {w : World} {o : Oper} {a : Act} {K : Act → World → Prop} {Q : Exit → Act → World → Prop} (s x : Operand) (t : TypeId)
    (ho : o.op = .call { callee := .builtin .append, args := #[s, x], argTypes := #[t, t] })
    (e : TypeId) (z : Value) (bytes : Nat) (ht : P.underlying t = some (.slice e)) (hinfo : (P.info? e).map (fun i => (i.zero, i.size, i.bytes)) = some (some z, 1, bytes)) (hzs : z.cells.size = 1)
    (lo hi' : Nat) (v : Value) (n : Nat) (f : Nat → Value) (hs : a.eval s = v) (hown : OwnF w lo hi' e v n f) (hlo : lo ≤ w.heap.size) (hhi : hi' ≤ w.heap.size)
    (u : Value) (m : Nat) (g : Nat → Value) (hxu : a.eval x = u) (hx : Rd w u m g) (h1 : ∀ j, j < m → (g j).oneCell' = true) (h63 : n + m ≤ maxLen) (hbytes : (n + m) * bytes ≤ 140737488355328)
    (h : ∀ v' w', OwnF w' lo w'.heap.size e v' (n + m) (fun j => if j < n then f j else g (j - n)) → w.grownBy w' v.ownBlock → K (a.put o.dst v') w') :
    Oper.wp P o a w K Q := by
  obtain ⟨i, hi, hz, hsz, hby⟩ := info_parts hinfo
  obtain ⟨v', w', hr, h2, h3⟩ := run_append_F (P := P) w t o.type e i z bytes ht hi hz hsz hby hzs lo hi' v n f hown hlo hhi u m g hx h1 h63 hbytes
  unfold Oper.wp
  simp [execOp, ho, resolve, invoke, builtin, hs, hxu, hr, Result.andThen]
  exact h v' w' h2 h3

/-- what CornerRank returns -/
def CkIs (P R C : Int) (D : List Int) (a b r : Int) : Prop :=
  if mxOk P R C D = true ∧ (0 ≤ a ∧ a ≤ R) ∧ (0 ≤ b ∧ b ≤ C) then ∃ n : Nat, r = n ∧ HasRank P b.toNat a.toNat (mf C.toNat fun t => D.getD t 0) n else r = -1
theorem CkIs.one {P R C : Int} {D : List Int} {a b r r' : Int} (h : CkIs P R C D a b r) (h' : CkIs P R C D a b r') : r = r' := by
  unfold CkIs at h h'
  by_cases e : mxOk P R C D = true ∧ (0 ≤ a ∧ a ≤ R) ∧ (0 ≤ b ∧ b ≤ C)
  · rw [if_pos e] at h h'
    obtain ⟨n, rfl, h⟩ := h
    obtain ⟨n', rfl, h'⟩ := h'
    obtain ⟨_, _, _, _, _, _, _, _, _, hP, _⟩ := mxOk_facts e.1
    rw [h.one hP h']
  · rw [if_neg e] at h h'
    omega
theorem CkIs.eps {P R C : Int} {D : List Int} {a b r : Int} (h : CkIs P R C D a b r) : r = Classical.epsilon (CkIs P R C D a b) := h.one (Classical.epsilon_spec ⟨r, h⟩)
theorem CkIs.no {P R C : Int} {D : List Int} {a b : Int} (h : ¬ (mxOk P R C D = true ∧ (0 ≤ a ∧ a ≤ R) ∧ (0 ≤ b ∧ b ≤ C))) : CkIs P R C D a b (-1) := by
  unfold CkIs; rw [if_neg h]
theorem CkIs.yes {P : Int} {r c a b n : Nat} {D : List Int} (h : mxOk P r c D = true) (ha : a ≤ r) (hb : b ≤ c) (hn : HasRank P b a (mf c fun t => D.getD t 0) n) : CkIs P r c D a b n := by
  unfold CkIs
  rw [if_pos ⟨h, ⟨by omega, by omega⟩, ⟨by omega, by omega⟩⟩]
  exact ⟨n, rfl, hn⟩

end Go.Proofs.Ytmnlpkmnbjoicaa
