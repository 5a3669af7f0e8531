/-
  l7Corner, CornerRank. (DRAFT)
-/
import Derived.Test.YtejoapielndnnaaRank
namespace Go.Proofs.Ytejoapielndnnaa
set_option linter.all false
open Go.RowKit

/-- the first i rows of a corner of b columns -/
def cornL (c b : Nat) (D : List Int) (i : Nat) : List Int := (List.range (i * b)).map fun t => D.getD ((t / b) * c + t % b) 0
theorem cornL_length (c b : Nat) (D : List Int) (i : Nat) : (cornL c b D i).length = i * b := by simp [cornL]
theorem cornL_getD {c b : Nat} {D : List Int} {i k j : Nat} (hk : k < i) (hj : j < b) : (cornL c b D i).getD (k * b + j) 0 = D.getD (k * c + j) 0 := by
  have h := mul_le_of (C := b) hk
  rw [Nat.add_mul, Nat.one_mul] at h
  obtain ⟨d1, d2⟩ := div_at (k := k) hj
  simp [cornL, List.getD_eq_getElem?_getD, show k * b + j < i * b by omega, d1, d2]

theorem cornL_mono {c b : Nat} {D : List Int} {i t : Nat} (h : t < i * b) : (cornL c b D i).getD t 0 = (cornL c b D (i + 1)).getD t 0 := by
  have h2 : t < (i + 1) * b := by rw [Nat.add_mul]; omega
  simp [cornL, List.getD_eq_getElem?_getD, h, h2]
theorem own_box {w : World} {lo hi : Nat} {Ti T : TypeId} {v : Value} {n b : Nat} {f : Nat → Value} {cs : Array Value} (h : OwnF w lo hi Ti v n f) (hz : w.heap[b]? = some (.cells cs T (0, 0))) (hT : Ti ≠ T) : v.ownBlock ≠ some b := by
  intro hv
  obtain ⟨zs, hz', _⟩ := h
  rcases Own.row hz' with ⟨e1, _⟩ | ⟨g, cap', F, e1, _, _, _, _, hr, _⟩
  · rw [e1] at hv; simp [Value.ownBlock] at hv
  · rw [e1] at hv
    simp only [Value.ownBlock, Option.some.injEq] at hv
    subst hv
    obtain ⟨c, hc, _⟩ := hr
    rw [hz] at hc
    injection hc with hc
    injection hc with _ hc
    exact hT hc.symm

theorem oper_append_F {P : Program} {w : World} {o : Oper} {a : Act} {K : Act → World → Prop} {Q : Exit → Act → World → Prop} (s x : Operand) (t : TypeId)
    (ho : o.op = .call { callee := .builtin .append, args := #[s, x], argTypes := #[t, t] })
    (e : TypeId) (z : Value) (bytes : Nat) (ht : P.underlying t = some (.slice e)) (hinfo : (P.info? e).map (fun i => (i.zero, i.size, i.bytes)) = some (some z, 1, bytes)) (hzs : z.cells.size = 1)
    (lo hi' : Nat) (v : Value) (n : Nat) (f : Nat → Value) (hs : a.eval s = v) (hown : OwnF w lo hi' e v n f) (hlo : lo ≤ w.heap.size) (hhi : hi' ≤ w.heap.size)
    (u : Value) (m : Nat) (g : Nat → Value) (hxu : a.eval x = u) (hx : Rd w u m g) (h1 : ∀ j, j < m → (g j).oneCell' = true) (h63 : n + m ≤ maxLen) (hbytes : (n + m) * bytes ≤ 140737488355328)
    (h : ∀ v' w', OwnF w' lo w'.heap.size e v' (n + m) (fun j => if j < n then f j else g (j - n)) → w.grownBy w' v.ownBlock → K (a.put o.dst v') w') :
    Oper.wp P o a w K Q := by
  obtain ⟨i, hi, hz, hsz, hby⟩ := info_parts hinfo
  obtain ⟨v', w', hr, h2, h3⟩ := run_append_F (P := P) w t o.type e i z bytes ht hi hz hsz hby hzs lo hi' v n f hown hlo hhi u m g hx h1 h63 hbytes
  unfold Oper.wp
  simp [execOp, ho, resolve, invoke, builtin, hs, hxu, hr, Result.andThen]
  exact h v' w' h2 h3

set_option maxRecDepth 100000 in
set_option maxHeartbeats 16000000 in
theorem l7Corner_any (P : Int) (r c a b : Nat) (d : Value) (D : List Int) (w : World) (hd : Ints w d D) (hD : D.length = r * c) (hrg : ∀ t, 0 ≤ D.getD t 0 ∧ D.getD t 0 < P) (hP : primeOk P = true) (hr : r ≤ 7) (hc0 : 1 ≤ c) (hc : c ≤ 7) (ha : a ≤ r) (hb : b ≤ c) :
    Calls Try.prog 30 #[.agg #[.int .i64 P, .int .i64 (r : Int), .int .i64 (c : Int), d], .int .i64 (a : Int), .int .i64 (b : Int)] w fun e w' =>
      ∃ n : Nat, e = .returned (.int .i64 n) ∧ HasRank P b a (mf c fun t => D.getD t 0) n ∧ n ≤ a ∧ Below w.heap.size w w' := by
  have Hd := Lib.hid hd
  obtain ⟨p, cap, rfl, ⟨hdc, mx⟩, hdx⟩ := hd
  unfold maxLen at mx
  have Hdx := Lib.hid hdx
  have HD := Lib.hid hD
  have Hrg := Lib.hid hrg
  have HP := Lib.hid hP
  clear hdx hD hrg hP
  go_enter Try.func30, Try.ntmps30
  go_wp2_with fail
  go_loopg [8] a (fun g s8 wr => ∃ (i : Nat) (pS : Option Addr) (kS : Nat) (L : List Int), i ≤ a ∧ g = a - i ∧ s8 = .int .i64 i ∧ Hid (Below w.heap.size w wr) ∧ Hid (L = cornL c b D i) ∧
    Hid (wr.heap[w.heap.size]? = some (.cells #[.int .i64 P, .int .i64 (r : Int), .int .i64 (c : Int), .slice p D.length cap] 27 (0, 0))) ∧
    Hid (wr.heap[w.heap.size + 2]? = some (.cells #[.int .i64 P, .int .i64 (a : Int), .int .i64 (b : Int), .slice pS L.length kS] 27 (0, 0))) ∧
    Hid (OwnI 3 wr (w.heap.size + 1) wr.heap.size (.slice pS L.length kS) L))
  case atStart =>
    have h0 : ((w.alloc (.cells #[.int .i64 P, .int .i64 (r : Int), .int .i64 (c : Int), .slice p D.length cap] 27)).alloc (.cells #[] 3)).heap.size = w.heap.size + 2 := by simp
    have hm0 := OwnF.made0 (w.alloc (.cells #[.int .i64 P, .int .i64 (r : Int), .int .i64 (c : Int), .slice p D.length cap] 27)) 3 (fun _ => .int .i64 0)
    simp only [size_alloc] at hm0
    have hl0 : (cornL c b D 0).length = 0 := by simp [cornL]
    refine ⟨0, some ⟨w.heap.size + 1, 0, none⟩, 0, cornL c b D 0, Nat.zero_le _, rfl, rfl, below_alloc3 _ _ _ _, rfl, ?_, ?_, ?_⟩
    · unfold Hid
      rw [heap_alloc_low _ _ (by simp; omega), heap_alloc_low _ _ (by simp)]; exact heap_alloc_top _ _
    · unfold Hid
      rw [hl0]; exact heap_alloc_at _ _ h0.symm
    · unfold Hid
      refine OwnF.ints ?_
      rw [hl0]
      exact ((hm0.below (below_alloc _ _)).mono (Nat.le_refl _) (by simp)).congr fun j hj => absurd hj (Nat.not_lt_zero _)
  case round =>
    obtain ⟨i, pS, kS, L, hi, rfl, rfl, hbx, hL, hm, hq, ho⟩ := hrel
    obtain ⟨m0, m1, m2, m3, mf', mz⟩ := blk4 hm.out
    obtain ⟨q0, q1, q2, q3, qf', qz⟩ := blk4 hq.out
    by_cases hlt : i < a
    · have hDl := HD.out
      have hkc := mul_le_of (C := c) (show i < r by omega)
      rw [Nat.add_mul, Nat.one_mul] at hkc
      obtain ⟨K1, hK1, r1, r2⟩ := mul_named i c (by have := Nat.mul_le_mul (show i ≤ 7 by omega) hc; omega)
      have R1 := Lib.hid r1
      have R2 := Lib.hid r2
      clear r1 r2
      have hKn : K1 + c ≤ D.length := by omega
      have hK49 : K1 ≤ 49 := by have := Nat.mul_le_mul (show i ≤ 7 by omega) hc; omega
      have hKc : K1 < cap := by omega
      have hKc2 : ¬ cap = K1 := by omega
      obtain ⟨bl, off, rfl, hcx⟩ := Hdx.out (by omega)
      have Q1 := Lib.hid (w64 (n := (K1 : Int) + (b : Int)) (by omega) (by omega))
      have Q2 := Lib.hid (k64 (n := (K1 : Int) + (b : Int)) (by omega) (by omega))
      have hi1 : (0 : Int) ≤ (K1 : Int) := by omega
      have hi2 : (K1 : Int) ≤ (K1 : Int) + (b : Int) := by omega
      have hi3 : (K1 : Int) + (b : Int) ≤ (cap : Int) := by omega
      have hi4 : ((K1 : Int) + (b : Int)).toNat = K1 + b := by omega
      have hi5 : (K1 : Int).toNat = K1 := by omega
      have HK1 := Lib.hid hK1
      clear hcx hDl hkc hK1
      go_wp2_with fail
      have f1 := R1.out
      have f2 := R2.out
      have f3 := Q1.out
      have f4 := Q2.out
      go_still_tail 15, (by kernel_rfl)
      change wpList _ _ _ _ _ wr.drew
      clear f1 f2 f3 f4
      have hqo := own_box ho.out.fn hq.out (by decide)
      have hlL : L.length = i * b := by rw [hL.out, cornL_length]
      have hib : i * b ≤ 49 := by have := Nat.mul_le_mul (show i ≤ 7 by omega) (show b ≤ 7 by omega); omega
      have hrd0 : Ints wr (.slice (some ⟨bl, off, none⟩) D.length cap) D := Hd.out.below hbx.out
      have hrd1 := Rd.part hrd0 K1 b (cap - K1) (by omega) (by omega) (by unfold maxLen; omega)
      have Hrd := Lib.hid (hrd1.below (w' := wr.drew) (Below.refl _ _).drew)
      have Ho := Lib.hid (ho.out.below (w' := wr.drew) (Below.refl _ _).drew)
      have hsz0 : wr.drew.heap.size = wr.heap.size := rfl
      have hwz := hbx.out.size
      have Hb1 := Lib.hid (show L.length + b ≤ maxLen by unfold maxLen; omega)
      have Hb2 := Lib.hid (show (L.length + b) * 8 ≤ 140737488355328 by omega)
      have HlL := Lib.hid hlL
      have Hqo := Lib.hid hqo
      clear hrd0 hrd1 hlL hib hqo
      go_wp2_with (at_builtin; go_must (refine wpList_append_F rfl (.tmp 21) (.tmp 34) 22 rfl 3 (.int .i64 0) 8 Try.underlying22 info_int rfl (w.heap.size + 1) wr.heap.size _ L.length (iv L) rfl Ho.out.fn (by omega) (by omega) _ b _ rfl Hrd.out (fun j _ => iv_one _ _) Hb1.out Hb2.out ?_; intro v' w' ho' hg'; have hq' := (hg'.block (w.heap.size + 2) (by omega) (fun e => Hqo.out e.symm)).trans hq.out; have hm' := (hg'.block w.heap.size (by omega) (fun e => own_box ho.out.fn hm.out (by decide) e.symm)).trans hm.out; obtain ⟨u0, u1, u2, u3, uf, uz⟩ := blk4 hq'; obtain ⟨p', k', rfl, hk1', hk2', _⟩ := ho'.shape))
      have hsw := hg'.size
      have hbw : Below w.heap.size w w' := (hbx.out.drew).trans (grownBy_below hg' Ho.out.fn.blocks (by omega) (by omega))
      have hL2 : (cornL c b D (i + 1)).length = L.length + b := by rw [cornL_length, HlL.out, Nat.add_mul, Nat.one_mul]
      have hoI : OwnI 3 w' (w.heap.size + 1) w'.heap.size (.slice p' (L.length + b) k') (cornL c b D (i + 1)) := by
        refine OwnF.ints ?_
        rw [hL2]
        refine ho'.congr fun t ht => ?_
        have hbp : 0 < b := by
          rcases Nat.eq_zero_or_pos b with h0 | h0
          · rw [h0, HlL.out, h0] at ht; omega
          · exact h0
        by_cases e : t < L.length
        · rw [if_pos e, hL.out]
          unfold iv
          rw [cornL_mono (by rw [← HlL.out]; exact e)]
        · rw [if_neg e]
          obtain ⟨j, rfl⟩ : ∃ j, t = i * b + j := ⟨t - i * b, by rw [HlL.out] at e; omega⟩
          have hj : j < b := by rw [HlL.out] at ht; omega
          unfold iv
          rw [cornL_getD (Nat.lt_succ_self i) hj, HlL.out, HK1.out]
          congr 3
          omega
      have hnq := own_box hoI.fn hq' (by decide)
      go_roundg (a - (i + 1))
      case measure => omega
      case rel =>
        refine ⟨i + 1, p', k', cornL c b D (i + 1), by omega, rfl, by go_num, hbw.setCell (by show w.heap.size ≤ w.heap.size + 2; omega) _, rfl, ?_, ?_, ?_⟩
        · unfold Hid
          rw [Below.heap_setCell _ _ _ _ (by show w.heap.size ≠ w.heap.size + 2; omega)]; exact hm'
        · unfold Hid
          have := heap_setCell_at hq' 3 (.slice p' (L.length + b) k')
          rw [hL2]
          simpa using this
        · unfold Hid
          rw [hL2, size_setCell]
          exact hoI.at_block fun k hk => Below.heap_setCell _ _ _ _ (by show k ≠ w.heap.size + 2; exact fun e => hnq (e ▸ hk))
    · obtain rfl : i = a := by omega
      have hlL : L.length = i * b := by rw [hL.out, cornL_length]
      have hrgL : ∀ t, 0 ≤ L.getD t 0 ∧ L.getD t 0 < P := fun t => by
        by_cases ht : t < L.length
        · rw [hL.out]
          have ht2 : t < i * b := by rw [← hlL]; exact ht
          have : (cornL c b D i).getD t 0 = D.getD ((t / b) * c + t % b) 0 := by simp [cornL, List.getD_eq_getElem?_getD, ht2]
          rw [this]; exact Hrg.out _
        · rw [getD_out (by omega)]; have := Hrg.out 0; omega
      have HR := Lib.hid (l7Rank_any P i b _ L wr ho.out.ints hlL hrgL HP.out (by omega) (by omega))
      clear hlL hrgL
      go_wp2_with fail
      refine HR.out.mono ?_
      rintro e w2 ⟨n, rfl, hn, hni, hb2⟩
      have Hn := Lib.hid hn
      have Hb2 := Lib.hid (hbx.out.trans (hb2.mono hbx.out.size))
      clear hn hb2
      go_wp2_with fail
      go_ret
      refine ⟨n, rfl, ?_, hni, Hb2.out⟩
      obtain ⟨M, q, h1, h2, h3, h4⟩ := Hn.out
      refine ⟨M, q, h1, h2, h3, (SameSp.of_eqv fun k hk => .of_eq fun j hj => ?_).trans h4⟩
      unfold mf
      dsimp only
      rw [hL.out, cornL_getD hk hj]

/-- what CornerRank returns -/
def CkIs (P R C : Int) (D : List Int) (a b r : Int) : Prop :=
  if mxOk P R C D = true ∧ (0 ≤ a ∧ a ≤ R) ∧ (0 ≤ b ∧ b ≤ C) then ∃ n : Nat, r = n ∧ HasRank P b.toNat a.toNat (mf C.toNat fun t => D.getD t 0) n else r = -1
theorem CkIs.one {P R C : Int} {D : List Int} {a b r r' : Int} (h : CkIs P R C D a b r) (h' : CkIs P R C D a b r') : r = r' := by
  unfold CkIs at h h'
  by_cases e : mxOk P R C D = true ∧ (0 ≤ a ∧ a ≤ R) ∧ (0 ≤ b ∧ b ≤ C)
  · rw [if_pos e] at h h'
    obtain ⟨n, rfl, h⟩ := h
    obtain ⟨n', rfl, h'⟩ := h'
    obtain ⟨_, _, _, _, _, _, _, _, _, hP, _⟩ := mxOk_facts e.1
    rw [h.one hP h']
  · rw [if_neg e] at h h'
    omega
theorem CkIs.eps {P R C : Int} {D : List Int} {a b r : Int} (h : CkIs P R C D a b r) : r = Classical.epsilon (CkIs P R C D a b) := h.one (Classical.epsilon_spec ⟨r, h⟩)
theorem CkIs.no {P R C : Int} {D : List Int} {a b : Int} (h : ¬ (mxOk P R C D = true ∧ (0 ≤ a ∧ a ≤ R) ∧ (0 ≤ b ∧ b ≤ C))) : CkIs P R C D a b (-1) := by
  unfold CkIs; rw [if_neg h]
theorem CkIs.yes {P : Int} {r c a b n : Nat} {D : List Int} (h : mxOk P r c D = true) (ha : a ≤ r) (hb : b ≤ c) (hn : HasRank P b a (mf c fun t => D.getD t 0) n) : CkIs P r c D a b n := by
  unfold CkIs
  rw [if_pos ⟨h, ⟨by omega, by omega⟩, ⟨by omega, by omega⟩⟩]
  exact ⟨n, rfl, hn⟩

end Go.Proofs.Ytejoapielndnnaa
