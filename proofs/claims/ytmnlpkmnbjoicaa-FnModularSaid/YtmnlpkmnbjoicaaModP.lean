/-
  The dimensions of the sum and of what is common, and what lies where (plain law; no program in sight).
-/
import Derived.Test.YtmnlpkmnbjoicaaZass
namespace Go.Proofs.Ytmnlpkmnbjoicaa
set_option linter.all false

theorem IsRed.congrM {P : Int} {C R n : Nat} {M0 M M' : Nat → Nat → Int} {q : Nat → Nat} (h : IsRed P C R M0 n M q) (e : ∀ i j, i < n → j < C → M' i j = M i j) : IsRed P C R M0 n M' q := by
  obtain ⟨h1, h2, h3, h4⟩ := h
  refine ⟨⟨h1.lt, fun i k hi hk => ?_, fun i j hi hj => ?_⟩, h2, fun i j hi hj => by rw [e i j hi hj]; exact h3 i j hi hj, h4.trans (SameSp.of_eqv fun i hi => .of_eq fun j hj => (e i j hi hj).symm)⟩
  · rw [e i _ hi (h1.lt k hk)]; exact h1.unit i k hi hk
  · rw [e i j hi (by have := h1.lt i hi; omega)]; exact h1.lead i j hi hj
theorem IsRed.from' {P : Int} {C R R' n : Nat} {M0 M1 M : Nat → Nat → Int} {q : Nat → Nat} (h : IsRed P C R M0 n M q) (hs : SameSp P C R' M1 R M0) : IsRed P C R' M1 n M q := ⟨h.1, h.2.1, h.2.2.1, hs.trans h.2.2.2⟩
theorem mf_flatM {n C i j : Nat} {M : Nat → Nat → Int} (hi : i < n) (hj : j < C) : mf C (fun t => (flatM n C M).getD t 0) i j = M i j := by
  obtain ⟨d1, d2⟩ := div_at (k := i) hj
  have hb : i * C + j < n * C := flat_ltW hi hj
  unfold mf flatM
  show (List.map (fun t => M (t / C) (t % C)) (List.range (n * C))).getD (i * C + j) 0 = M i j
  rw [List.getD_eq_getElem?_getD]
  simp [hb, d1, d2]
theorem flatM_getD_rng {P : Int} {n C : Nat} {M : Nat → Nat → Int} (hP : 0 < P) (h : ∀ i j, i < n → j < C → 0 ≤ M i j ∧ M i j < P) : ∀ x ∈ flatM n C M, 0 ≤ x ∧ x < P := fun x hx => by
  unfold flatM at hx
  obtain ⟨t, ht, rfl⟩ := List.mem_map.1 hx
  have ht : t < n * C := by simpa using ht
  have hC : 0 < C := by
    rcases Nat.eq_zero_or_pos C with h0 | h0
    · rw [h0] at ht; omega
    · exact h0
  exact h _ _ (Nat.div_lt_of_lt_mul (by rwa [Nat.mul_comm])) (Nat.mod_lt _ hC)

/-- the rows of a space are their own reduced form -/
theorem IsSp.red {P : Int} {r c : Nat} {D : List Int} (h : IsSp P r c D) : ∃ q, IsRed P c r (mf c fun t => D.getD t 0) r (mf c fun t => D.getD t 0) q ∧ D = flatM r c (mf c fun t => D.getD t 0) := by
  obtain ⟨h1, h2⟩ := h
  unfold SpIs at h2
  rw [if_pos h1] at h2
  obtain ⟨n, M, q, hr, _, e⟩ := h2
  injection e with _ e2 _ e4
  have e2 : r = n := Int.ofNat.inj e2
  subst e2
  simp only [Int.toNat_natCast] at hr e4
  have hM : ∀ i j, i < r → j < c → mf c (fun t => D.getD t 0) i j = M i j := fun i j hi hj => by rw [e4]; exact mf_flatM hi hj
  refine ⟨q, hr.congrM hM, ?_⟩
  rw [flatM_congr hM]
  exact e4
theorem IsRed.isSp {P : Int} {C R n : Nat} {M0 M : Nat → Nat → Int} {q : Nat → Nat} (h : IsRed P C R M0 n M q) (hp : primeOk P = true) (h1 : 1 ≤ C) (h7 : C ≤ 7) : IsSp P n C (flatM n C M) := by
  obtain ⟨hP, _⟩ := primeOk_range hp
  have hn := asc_bound h.2.1 h.1.lt
  have hok : mxOk P n C (flatM n C M) = true := by
    unfold mxOk
    refine decide_eq_true ⟨hp, by omega, by omega, by rw [flatM_length]; push_cast; rfl, flatM_getD_rng (by omega) h.2.2.1⟩
  refine ⟨hok, ?_⟩
  unfold SpIs
  rw [if_pos hok]
  refine ⟨n, M, q, ?_, Int.le_refl _, by simp⟩
  simp only [Int.toNat_natCast]
  exact ⟨h.1, h.2.1, h.2.2.1, SameSp.of_eqv fun i hi => .of_eq fun j hj => mf_flatM hi hj⟩
/-- what spans the same has the same reduced form -/
theorem RowsIs.eq_of {P : Int} {C R R' n : Nat} {M0 M1 M : Nat → Nat → Int} {q : Nat → Nat} {x : Mx} (hP : 2 ≤ P) (h : RowsIs P C R M0 x) (h2 : IsRed P C R' M1 n M q) (hs : SameSp P C R M0 R' M1) : x = ⟨P, n, C, flatM n C M⟩ :=
  h.one hP ⟨n, M, q, h2.from' hs, rfl⟩
/-- a second lot of rows that lies in what the first one spans -/
theorem stack_same {P : Int} {C R R' : Nat} {A B : Nat → Nat → Int} (h : ∀ i, i < R' → Sp P C R A (B i)) : SameSp P C (R + R') (stackM R A B) R A := by
  refine ⟨fun i hi => ?_, fun i hi => ?_⟩
  · by_cases e : i < R
    · rw [stackM_lt e]; exact .row e
    · rw [stackM_ge e]; exact h _ (by omega)
  · have := Sp.row (p := P) (C := C) (n := R + R') (M := stackM R A B) (i := i) (by omega)
    rwa [stackM_lt hi] at this
theorem stack_same' {P : Int} {C R R' : Nat} {A B : Nat → Nat → Int} (h : ∀ i, i < R → Sp P C R' B (A i)) : SameSp P C (R + R') (stackM R A B) R' B := by
  refine ⟨fun i hi => ?_, fun i hi => ?_⟩
  · by_cases e : i < R
    · rw [stackM_lt e]; exact h _ e
    · rw [stackM_ge e]; exact .row (by omega)
  · have := Sp.row (p := P) (C := C) (n := R + R') (M := stackM R A B) (i := R + i) (by omega)
    rwa [stackM_ge (by omega), Nat.add_sub_cancel_left] at this
theorem stack_left {P : Int} {C R R' i : Nat} {A B : Nat → Nat → Int} (hi : i < R) : Sp P C (R + R') (stackM R A B) (A i) := by
  have := Sp.row (p := P) (C := C) (n := R + R') (M := stackM R A B) (i := i) (by omega)
  rwa [stackM_lt hi] at this
theorem stack_right {P : Int} {C R R' i : Nat} {A B : Nat → Nat → Int} (hi : i < R') : Sp P C (R + R') (stackM R A B) (B i) := by
  have := Sp.row (p := P) (C := C) (n := R + R') (M := stackM R A B) (i := R + i) (by omega)
  rwa [stackM_ge (by omega), Nat.add_sub_cancel_left] at this

/-- all that the law FnModular says of the sum s and what is common m of two spaces -/
theorem modular_law {P : Int} {ra rb c : Nat} {DA DB : List Int} (hA : IsSp P ra c DA) (hB : IsSp P rb c DB) {s m : Mx}
    (hs : RowsIs P c (ra + rb) (stackM ra (mf c fun t => DA.getD t 0) (mf c fun t => DB.getD t 0)) s) (hm : MtIs P c ra rb (mf c fun t => DA.getD t 0) (mf c fun t => DB.getD t 0) m) :
    ∃ ns nm : Nat, s = ⟨P, ns, c, s.D⟩ ∧ m = ⟨P, nm, c, m.D⟩ ∧ ns + nm = ra + rb ∧ IsSp P ns c s.D ∧ IsSp P nm c m.D ∧
      (∀ x, RowsIs P c (ns + ra) (stackM ns (mf c fun t => s.D.getD t 0) (mf c fun t => DA.getD t 0)) x → x = s) ∧
      (∀ x, RowsIs P c (nm + ra) (stackM nm (mf c fun t => m.D.getD t 0) (mf c fun t => DA.getD t 0)) x → x = ⟨P, ra, c, DA⟩) ∧
      (∀ x, RowsIs P c (nm + rb) (stackM nm (mf c fun t => m.D.getD t 0) (mf c fun t => DB.getD t 0)) x → x = ⟨P, rb, c, DB⟩) ∧
      (∀ x, MtIs P c ns rb (mf c fun t => s.D.getD t 0) (mf c fun t => DB.getD t 0) x → x = ⟨P, rb, c, DB⟩) := by
  obtain ⟨r1, c1, e1, e2, hr1, hc0, hc7, hlA, hDA, hP2, hP7, hp⟩ := mxOk_facts hA.1
  obtain rfl := Int.ofNat.inj e1
  obtain rfl := Int.ofNat.inj e2
  obtain ⟨r2, c2, e1, e2, hr2, _, _, hlB, hDB, _, _, _⟩ := mxOk_facts hB.1
  obtain rfl := Int.ofNat.inj e1
  clear e2
  obtain ⟨qA, redA, flA⟩ := hA.red
  obtain ⟨qB, redB, flB⟩ := hB.red
  obtain ⟨A, eA⟩ : ∃ A, A = mf c fun t => DA.getD t 0 := ⟨_, rfl⟩
  obtain ⟨B, eB⟩ : ∃ B, B = mf c fun t => DB.getD t 0 := ⟨_, rfl⟩
  rw [← eA] at hs hm redA flA ⊢
  rw [← eB] at hs hm redB flB ⊢
  obtain ⟨n, M, q, hz, hk⟩ := hm
  obtain ⟨n1, n2, q2, hn, hkl, hz1, hz2, hz3⟩ := zass hp redA.2.2.1 redB.2.2.1 redA.1.indep redB.1.indep hz
  have es : s = ⟨P, n1, c, flatM n1 c M⟩ := hs.eq_of hP2 hz1 .refl
  have em : m = ⟨P, n2, c, flatM n2 c (keptM c M (keptL n c q))⟩ := hk.eq_of hP2 hz2 (by rw [hkl]; exact .refl)
  generalize keptM c M (keptL n c q) = K at *
  have hS : SameSp P c n1 (mf c fun t => (flatM n1 c M).getD t 0) n1 M := SameSp.of_eqv fun i hi => .of_eq fun j hj => mf_flatM hi hj
  have hK : SameSp P c n2 (mf c fun t => (flatM n2 c K).getD t 0) n2 K := SameSp.of_eqv fun i hi => .of_eq fun j hj => mf_flatM hi hj
  have hAS : ∀ i, i < ra → Sp P c n1 M (A i) := fun i hi => (stack_left hi).trans hz1.2.2.2.1
  have hBS : ∀ i, i < rb → Sp P c n1 M (B i) := fun i hi => (stack_right hi).trans hz1.2.2.2.1
  subst es em
  dsimp only
  refine ⟨n1, n2, rfl, rfl, hn, hz1.isSp hp hc0 hc7, hz2.isSp hp hc0 hc7, fun x hx => ?_, fun x hx => ?_, fun x hx => ?_, fun x hx => ?_⟩
  · exact hx.eq_of hP2 hz1 ((stack_same fun i hi => (hAS i hi).trans hS.2).trans (hS.trans hz1.2.2.2.symm))
  · have := hx.eq_of hP2 redA (stack_same' fun i hi => (hK.1 i hi).trans fun k hk => (hz3 k hk).1)
    rw [this, ← flA]
  · have := hx.eq_of hP2 redB (stack_same' fun i hi => (hK.1 i hi).trans fun k hk => (hz3 k hk).2)
    rw [this, ← flB]
  · obtain ⟨n', M', q', hz', hk'⟩ := hx
    have redS : IsRed P c n1 M n1 M q := ⟨hz1.1, hz1.2.1, hz1.2.2.1, .refl⟩
    have hSm : IsRed P c n1 (mf c fun t => (flatM n1 c M).getD t 0) n1 (mf c fun t => (flatM n1 c M).getD t 0) q := (redS.from' hS).congrM fun i j hi hj => mf_flatM hi hj
    obtain ⟨n1', n2', q2', hn', hkl', hz1', hz2', hz3'⟩ := zass hp hSm.2.2.1 redB.2.2.1 hSm.1.indep redB.1.indep hz'
    have hsum : SameSp P c (n1 + rb) (stackM n1 (mf c fun t => (flatM n1 c M).getD t 0) B) n1 (mf c fun t => (flatM n1 c M).getD t 0) := stack_same fun i hi => (hBS i hi).trans hS.2
    have hn1 : n1' = n1 := HasRank.one hP2 ⟨_, _, hz1'⟩ ⟨_, _, hSm.from' hsum⟩
    have hn2 : n2' = rb := by omega
    subst hn2
    have hsame : SameSp P c n2' (keptM c M' (keptL n' c q')) n2' B := HasRank.same_of_sub hP2 ⟨_, _, redB⟩ ⟨_, _, hz2'⟩ fun i hi => (hz3' i hi).2
    rw [hkl'] at hk'
    have := hk'.eq_of hP2 redB hsame
    rw [this, ← flB]

end Go.Proofs.Ytmnlpkmnbjoicaa
