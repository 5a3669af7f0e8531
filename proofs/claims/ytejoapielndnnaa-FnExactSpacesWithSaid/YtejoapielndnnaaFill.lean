/-
  All matrices with any numbers at some places: spec.l7Power, spec.l7Fill, impl.matricesWith.
-/
import Derived.Test.YtejoapielndnnaaMxS
import Derived.Test.YtejoapielndnnaaPmat
namespace Go.Proofs.Ytejoapielndnnaa
set_option linter.all false
open Go.RowKit

/-- the numbers behind j steps: from the last place down, the digits of x -/
def fillSt (p : Nat) (D : List Int) (free : List Nat) (x : Nat) : Nat → List Int × Nat
  | 0 => (D, x)
  | j + 1 => ((fillSt p D free x j).1.set (free.getD (free.length - 1 - j) 0) (((fillSt p D free x j).2 % p : Nat) : Int), (fillSt p D free x j).2 / p)
theorem fillSt_length (p : Nat) (D : List Int) (free : List Nat) (x : Nat) : ∀ j, (fillSt p D free x j).1.length = D.length
  | 0 => rfl
  | j + 1 => by simp [fillSt, fillSt_length p D free x j]
theorem fillSt_le (p : Nat) (D : List Int) (free : List Nat) (x : Nat) : ∀ j, (fillSt p D free x j).2 ≤ x
  | 0 => Nat.le_refl _
  | j + 1 => Nat.le_trans (Nat.div_le_self _ _) (fillSt_le p D free x j)
/-- the first n matrices -/
def fillMs (p : Nat) (R C : Int) (D : List Int) (free : List Nat) (n : Nat) : List Mx := (List.range n).map fun x => ⟨p, R, C, (fillSt p D free x free.length).1⟩
theorem fillMs_length (p : Nat) (R C : Int) (D : List Int) (free : List Nat) (n : Nat) : (fillMs p R C D free n).length = n := by simp [fillMs]
theorem fillMs_succ (p : Nat) (R C : Int) (D : List Int) (free : List Nat) (n : Nat) : fillMs p R C D free (n + 1) = fillMs p R C D free n ++ [⟨p, R, C, (fillSt p D free n free.length).1⟩] := by
  simp [fillMs, List.range_succ]
/-- places, as numbers -/
def nats (l : List Nat) : List Int := l.map fun (x : Nat) => (x : Int)
theorem nats_length (l : List Nat) : (nats l).length = l.length := by simp [nats]
theorem nats_getD (l : List Nat) {i : Nat} (h : i < l.length) : (nats l).getD i 0 = (l.getD i 0 : Nat) := by simp [nats, List.getD_eq_getElem?_getD, h]
theorem nats_snoc (l : List Nat) (x : Nat) : nats (l ++ [x]) = nats l ++ [(x : Int)] := by simp [nats]

theorem OwnI.setI {T : TypeId} {w : World} {lo hi g n cap t : Nat} {D : List Int} (h : OwnI T w lo hi (.slice (some ⟨g, 0, none⟩) n cap) D) (ht : t < D.length) (x : Int) : OwnI T (w.setCell ⟨g, t, none⟩ (.int .i64 x)) lo hi (.slice (some ⟨g, 0, none⟩) n cap) (D.set t x) := by
  refine OwnF.ints ?_
  rw [List.length_set]
  refine (h.fn.set t _).congr fun j hj => ?_
  unfold iv
  by_cases e : j = t
  · subst e; simp [List.getD_eq_getElem?_getD, ht]
  · simp [e, List.getD_eq_getElem?_getD, List.getElem?_set_ne (fun h => e h.symm)]
theorem mul_hid (a b : Nat) (h : a * b ≤ 1000000000000000000) : ∃ N, N = a * b ∧ Hid (wrap64 ((a : Int) * (b : Int)) = (N : Int)) ∧ Hid (IntKind.i64.wrap ((a : Int) * (b : Int)) = (N : Int)) := mul_named a b h

set_option maxRecDepth 100000 in
set_option maxHeartbeats 400000 in
theorem l7Power_any (p k : Nat) (w : World) (h2 : 2 ≤ p) (h7 : p ≤ 7) (hk : k ≤ 1000) :
    Calls Try.prog 39 #[.int .i64 (p : Int), .int .i64 (k : Int), .int .i64 400] w fun e w' => ∃ x : Nat, e = .returned (.int .i64 (x : Int)) ∧ x ≤ 2800 ∧ (p ^ k ≤ 400 → x = p ^ k) ∧ (400 < p ^ k → 400 < x) ∧ w = w' := by
  go_enter Try.func39, Try.ntmps39
  go_wp2
  go_loop [7, 8] (fun s7 s8 => ∃ i X : Nat, i ≤ k ∧ s8 = .int .i64 i ∧ s7 = .int .i64 X ∧ X ≤ 2800 ∧ Hid (X = p ^ i)) (fun _ s8 => k - (intOf s8).toNat)
  case atStart => exact ⟨0, 1, Nat.zero_le _, rfl, rfl, by omega, by simp [Hid]⟩
  case round =>
    obtain ⟨i, X, hi, rfl, rfl, hX, hpw⟩ := hrel
    by_cases hlt : i < k
    · have hlt2 : (i : Int) < (k : Int) := by omega
      by_cases hx : X ≤ 400
      · have hx2 : (X : Int) ≤ 400 := by omega
        have hm : X * p ≤ 400 * 7 := Nat.mul_le_mul hx h7
        obtain ⟨N, hN, H3, H4⟩ := mul_hid X p (by omega)
        have HN := Lib.hid (show N = p ^ (i + 1) by rw [hN, hpw.out, Nat.pow_succ])
        have hN2 : N ≤ 2800 := by omega
        clear hN hm
        have h3 := H3.out
        have h4 := H4.out
        go_wp2
        clear h3 h4
        go_round
        case rel => exact ⟨i + 1, N, by omega, by go_num, rfl, hN2, HN.out⟩
        case measure => simp [intOf]; omega
      · have hx2 : ¬ (X : Int) ≤ 400 := by omega
        have hx3 : decide ((X : Int) ≤ 400) = false := by simp; omega
        have hgt : p ^ i ≤ p ^ k := Nat.pow_le_pow_right (by omega) (by omega)
        have Hg := Lib.hid hgt
        clear hgt
        go_wp2
        go_ret
        refine ⟨X, rfl, hX, fun h => ?_, fun _ => by omega, rfl⟩
        have := Hg.out
        rw [← hpw.out] at this
        omega
    · obtain rfl : i = k := by omega
      have hlt2 : ¬ (i : Int) < (i : Int) := by omega
      go_wp2
      go_ret
      exact ⟨X, rfl, hX, fun _ => hpw.out, fun h => by rw [hpw.out]; exact h, rfl⟩

theorem free_at {D : List Int} {free : List Nat} (hb : ∀ t ∈ free, t < D.length) {i : Nat} (h : i < free.length) : free.getD i 0 < D.length := by
  rw [List.getD_eq_getElem?_getD, List.getElem?_eq_getElem h]
  exact hb _ (List.getElem_mem h)
theorem powE {p k n : Nat} (h2 : 2 ≤ p) (h : p ^ n ≤ 400) (hk : k ≤ n) : p ^ k ≤ 400 := Nat.le_trans (Nat.pow_le_pow_right (by omega) hk) h

set_option maxRecDepth 100000 in
set_option maxHeartbeats 1000000 in
theorem matricesWith_no (p : Nat) (R C : Int) (d fr : Value) (D : List Int) (free : List Nat) (w : World) (hf : Ints w fr (nats free)) (h2 : 2 ≤ p) (h7 : p ≤ 7) (hl : free.length ≤ 49) (hp : 400 < p ^ free.length) :
    Calls Try.prog 43 #[.agg #[.int .i64 (p : Int), .int .i64 R, .int .i64 C, d], fr] w fun e w' => e = .returned (.tuple #[.slice none 0 0, .bool false]) ∧ Below w.heap.size w w' := by
  obtain ⟨q, cap, rfl, ⟨hc1, hc2⟩, _⟩ := hf
  unfold maxLen at hc2
  rw [nats_length] at *
  have Hp := Lib.hid hp
  have Z := Lib.hid (heap_alloc_top w (.cells #[.int .i64 (p : Int), .int .i64 R, .int .i64 C, d] 27))
  clear hp
  go_enter Try.func43, Try.ntmps43
  go_wp2_with fail
  obtain ⟨W0, hW0⟩ : ∃ x, x = w.alloc (.cells #[.int .i64 (p : Int), .int .i64 R, .int .i64 C, d] 27) := ⟨_, rfl⟩
  have Hbl := Lib.hid (show Below w.heap.size w W0 by rw [hW0]; exact below_alloc _ _)
  have Z0 := Z.out
  rw [← hW0] at Z0 ⊢
  obtain ⟨b0, b1, b2, b3, bf, bz⟩ := blk4 Z0
  clear hW0 Z Z0
  go_loop [6, 13] (fun s6 s13 => ∃ i X : Nat, i ≤ free.length ∧ s13 = .int .i64 i ∧ s6 = .int .i64 X ∧ X ≤ 400 ∧ Hid (X = p ^ i)) (fun _ s13 => free.length - (intOf s13).toNat)
  case atStart => exact ⟨0, 1, Nat.zero_le _, rfl, rfl, by omega, by simp [Hid]⟩
  case round =>
    obtain ⟨i, X, hi, rfl, rfl, hX, hpw⟩ := hrel
    by_cases hlt : i < free.length
    · have hlt2 : (i : Int) < (free.length : Int) := by omega
      have hm : X * p ≤ 400 * 7 := Nat.mul_le_mul hX h7
      obtain ⟨N, hN, H3, H4⟩ := mul_hid X p (by omega)
      have HN := Lib.hid (show N = p ^ (i + 1) by rw [hN, hpw.out, Nat.pow_succ])
      have hN2 : N ≤ 2800 := by omega
      clear hN hm
      by_cases hx : N ≤ 400
      · have hx2 : ¬ (400 : Int) < (N : Int) := by omega
        have h3 := H3.out
        have h4 := H4.out
        go_wp2
        clear h3 h4
        go_round
        case rel => exact ⟨i + 1, N, by omega, by go_num, rfl, hx, HN.out⟩
        case measure => simp [intOf]; omega
      · have hx2 : (400 : Int) < (N : Int) := by omega
        have h3 := H3.out
        have h4 := H4.out
        go_wp2
        clear h3 h4
        go_ret2
        exact ⟨rfl, Hbl.out⟩
    · obtain rfl : i = free.length := by omega
      have := Hp.out
      rw [← hpw.out] at this
      omega

set_option maxRecDepth 100000 in
set_option maxHeartbeats 4000000 in
theorem matricesWith_yes (p : Nat) (R C : Int) (d fr : Value) (D : List Int) (free : List Nat) (w : World) (hd : Ints w d D) (hf : Ints w fr (nats free)) (h2 : 2 ≤ p) (h7 : p ≤ 7)
    (hb : ∀ t ∈ free, t < D.length) (hD : D.length ≤ 49) (hl : free.length ≤ 49) (hp : p ^ free.length ≤ 400) :
    Calls Try.prog 43 #[.agg #[.int .i64 (p : Int), .int .i64 R, .int .i64 C, d], fr] w fun e w' =>
      ∃ v, e = .returned (.tuple #[v, .bool true]) ∧ OwnMs w' w.heap.size w'.heap.size v (fillMs p R C D free (p ^ free.length)) ∧ Below w.heap.size w w' := by
  obtain ⟨N, hN⟩ : ∃ N, N = p ^ free.length := ⟨_, rfl⟩
  rw [← hN] at hp ⊢
  have HN := Lib.hid hN
  have Hd := Lib.hid hd
  have Hf := Lib.hid hf
  have Hb := Lib.hid hb
  obtain ⟨q, cap, rfl, ⟨hc1, hc2⟩, hcc⟩ := hf
  obtain ⟨qd, capd, rfl, ⟨hd1, hd2⟩, _⟩ := hd
  unfold maxLen at hc2 hd2
  have Hcc := Lib.hid hcc
  rw [nats_length] at *
  have HlF := Lib.hid (nats_length free)
  have Z := Lib.hid (heap_alloc_top w (.cells #[.int .i64 (p : Int), .int .i64 R, .int .i64 C, .slice qd D.length capd] 27))
  clear hN hb hcc
  go_enter Try.func43, Try.ntmps43
  go_wp2_with fail
  obtain ⟨W0, hW0⟩ : ∃ x, x = w.alloc (.cells #[.int .i64 (p : Int), .int .i64 R, .int .i64 C, .slice qd D.length capd] 27) := ⟨_, rfl⟩
  have Hbl := Lib.hid (show Below w.heap.size w W0 by rw [hW0]; exact below_alloc _ _)
  have hsz : W0.heap.size = w.heap.size + 1 := by rw [hW0]; simp
  have Z0 := Lib.hid Z.out
  have Z1 := Z0.out
  rw [← hW0] at Z1 ⊢
  have ZB := Lib.hid Z1
  obtain ⟨b0, b1, b2, b3, bf, bz⟩ := blk4 Z1
  have Hsz := Lib.hid hsz
  clear hW0 Z Z0 Z1 hsz
  go_loop [6, 13] (fun s6 s13 => ∃ i X : Nat, i ≤ free.length ∧ s13 = .int .i64 i ∧ s6 = .int .i64 X ∧ X ≤ 400 ∧ Hid (X = p ^ i)) (fun _ s13 => free.length - (intOf s13).toNat)
  case atStart => exact ⟨0, 1, Nat.zero_le _, rfl, rfl, by omega, by simp [Hid]⟩
  case round =>
    obtain ⟨i, X, hi, rfl, rfl, hX, hpw⟩ := hrel
    by_cases hlt : i < free.length
    · have hlt2 : (i : Int) < (free.length : Int) := by omega
      have hm : X * p ≤ 400 * 7 := Nat.mul_le_mul hX h7
      obtain ⟨M, hM, H3, H4⟩ := mul_hid X p (by omega)
      have HM := Lib.hid (show M = p ^ (i + 1) by rw [hM, hpw.out, Nat.pow_succ])
      have hx : M ≤ 400 := by rw [HM.out]; exact powE h2 (by rw [← HN.out]; exact hp) (by omega)
      have hx2 : ¬ (400 : Int) < (M : Int) := by omega
      clear hM hm
      have h3 := H3.out
      have h4 := H4.out
      go_wp2
      clear h3 h4
      go_round
      case rel => exact ⟨i + 1, M, by omega, by go_num, rfl, hx, HM.out⟩
      case measure => simp [intOf]; omega
    · obtain rfl : i = free.length := by omega
      have hXN : X = N := by rw [hpw.out, HN.out]
      subst hXN
      clear b0 b1 b2 b3 bf
      have hlt2 : ¬ (free.length : Int) < (free.length : Int) := by omega
      go_wp2_with fail
      go_loopg [7, 24] X (fun gg s7 s24 wr => ∃ k : Nat, k ≤ X ∧ gg = X - k ∧ s24 = .int .i64 k ∧ Below W0.heap.size W0 wr ∧ Hid (OwnMs wr W0.heap.size wr.heap.size s7 (fillMs p R C D free k)))
      case atStart => exact ⟨0, Nat.zero_le _, rfl, rfl, below_alloc _ _, (OwnMs.made0 W0).mono (Nat.le_refl _) (by simp)⟩
      case round =>
        obtain ⟨k, hk, rfl, rfl, hbl, hO⟩ := hrel
        by_cases hkl : k < X
        · have hkl2 : (k : Int) < (X : Int) := by omega
          obtain ⟨wo, rfl⟩ : ∃ x : World, x = wr := ⟨_, rfl⟩
          obtain ⟨z0, z1, z2, z3, zf, zz⟩ := blk4 (blk_later ZB.out hbl)
          have Hdw := Lib.hid (Hd.out.below (Hbl.out.trans (hbl.mono Hbl.out.size)))
          have HO := Lib.hid hO.out
          clear hO
          go_wp2_with fail
          refine (clone_any _ D _ (Hdw.out.below (below_alloc _ _)) (by omega)).mono ?_
          rintro e w2 ⟨u, rfl, ho, hb2⟩
          obtain ⟨pc, kc, rfl, _, _⟩ := ho.shape
          have zx := (hb2.block _ (by simp)).trans (heap_alloc_top wo (.cells #[.int .i64 (p : Int), .int .i64 R, .int .i64 C, .slice qd D.length capd] 27))
          obtain ⟨x0, x1, x2, x3, xf, xz⟩ := blk4 zx
          have Hsx := Lib.hid (show wo.heap.size + 1 ≤ w2.heap.size by have := hb2.size; rwa [size_alloc] at this)
          have Hb2 := Lib.hid ((below_alloc wo (.cells #[.int .i64 (p : Int), .int .i64 R, .int .i64 C, .slice qd D.length capd] 27)).trans (hb2.mono (by simp)))
          have Zx := Lib.hid zx
          have Ho := Lib.hid ho
          clear zx ho hb2
          go_wp2_with fail
          clear x0 x1 x2 x3 xf xz z0 z1 z2 z3 zf
          obtain ⟨w3, hw3⟩ : ∃ x, x = w2.setCell ⟨wo.heap.size, 3, none⟩ (.slice pc D.length kc) := ⟨_, rfl⟩
          have hbs : Below wo.heap.size w2 w3 := by rw [hw3]; exact (Below.refl _ _).setCell (p := ⟨wo.heap.size, 3, none⟩) (Nat.le_refl _) _
          have hzx : w3.heap[wo.heap.size]? = some (.cells #[.int .i64 (p : Int), .int .i64 R, .int .i64 C, .slice pc D.length kc] 27) := by rw [hw3, heap_setCell_at Zx.out]; rfl
          have hod : OwnI 3 w3 (wo.heap.size + 1) w3.heap.size (.slice pc D.length kc) D := by
            rw [hw3]
            refine (OwnI.setCell Ho.out (Or.inl (by rw [size_alloc]; exact Nat.lt_succ_self _)) _).mono (by rw [size_alloc]; exact Nat.le_refl _) (by rw [size_setCell]; exact Nat.le_refl _)
          have hb3 : Below wo.heap.size wo w3 := Hb2.out.trans hbs
          have hs3 : wo.heap.size + 1 ≤ w3.heap.size := by have := Hsx.out; rw [hw3, size_setCell]; exact this
          rw [← hw3]
          clear hw3 hbs
          have ZX := Lib.hid hzx
          have ZB3 := Lib.hid (blk_later (blk_later ZB.out hbl) hb3)
          have HB3 := Lib.hid hb3
          have Hfw := Lib.hid (Hf.out.below (Hbl.out.trans ((hbl.mono Hbl.out.size).trans (hb3.mono (Nat.le_trans Hbl.out.size hbl.size)))))
          obtain ⟨lo', hi', hto, hin⟩ := hod.tight
          have Hin := Lib.hid hin
          have Hto := Lib.hid hto
          have Hod := Lib.hid hod
          clear hod hto hin hzx Hb2 Zx Ho Hsx
          have hlo : (wo.heap.size + 1 ≤ lo' ∧ hi' ≤ w3.heap.size) ∨ hi' ≤ lo' := by
            rcases Nat.lt_or_ge lo' hi' with h | h
            · left
              have h1 := Hin.out lo' (Nat.le_refl _) h
              have h2 := Hin.out (hi' - 1) (by omega) (by omega)
              omega
            · exact Or.inr h
          go_loopg [8, 10] (free.length + 1) (fun gg s8 s10 wq => ∃ (t r : Nat) (D' : List Int), t ≤ free.length ∧ gg = t + 1 ∧ s10 = .int .i64 ((t : Int) - 1) ∧ s8 = .int .i64 (r : Int) ∧ r ≤ k ∧ Frm lo' hi' w3 wq ∧ Hid (OwnI 3 wq lo' hi' (.slice pc D.length kc) D') ∧ Hid (fillSt p D free k (free.length - t) = (D', r)))
          case atStart => exact ⟨free.length, k, D, Nat.le_refl _, rfl, rfl, rfl, Nat.le_refl _, Frm.refl _ _ _, Hto.out, by simp [Hid, fillSt]⟩
          case round =>
            obtain ⟨t, r, D', ht, rfl, rfl, rfl, hr, hF, hO1, hst⟩ := hrel
            have hlD : D'.length = D.length := by have := fillSt_length p D free k (free.length - t); rw [hst.out] at this; exact this
            have HlD := Lib.hid hlD
            have HF := Lib.hid hF
            have HO1 := Lib.hid hO1.out
            have Hst := Lib.hid hst.out
            clear hO1 hst hlD hF
            by_cases ht0 : t = 0
            · subst ht0
              rw [show ((0 : Nat) : Int) - 1 = -1 from rfl]
              obtain ⟨x0, x1, x2, x3, xf, xz⟩ := blk4 (HF.out.blk ZX.out (by omega))
              have hst2 := Hst.out
              rw [Nat.sub_zero] at hst2
              have hlD2 : (fillSt p D free k free.length).1 = D' := by rw [hst2]
              have blx : Below wo.heap.size w3 wr := by
                have hB := HB3.out.size
                refine ⟨HF.out.os, HF.out.tape, HF.out.output, HF.out.size, fun b hb => HF.out.block b (by omega) (by omega)⟩
              have blw : Below wo.heap.size wo wr := HB3.out.trans blx
              obtain ⟨f, g1, g2, g3⟩ := HO.out.below blw
              have hal := below_alloc wr (.cells #[.int .i64 (p : Int), .int .i64 R, .int .i64 C, .slice pc D.length kc] 27)
              have g1a := Lib.hid (g1.below hal)
              have g2a := Lib.hid fun i hi => (g2 i hi).below hal
              have G3 := Lib.hid g3
              have hx : OwnI 3 (wr.alloc (.cells #[.int .i64 (p : Int), .int .i64 R, .int .i64 C, .slice pc D.length kc] 27)) wo.heap.size (wr.alloc (.cells #[.int .i64 (p : Int), .int .i64 R, .int .i64 C, .slice pc D.length kc] 27)).heap.size (.slice pc D.length kc) D' :=
                (HO1.out.below hal).widen fun b hb => by
                  have h1 := Own.block HO1.out hb
                  rw [size_alloc]; omega
              have Hx := Lib.hid hx
              have Hcl := Lib.hid (show ∀ j, j < 4 → (wr.alloc (.cells #[.int .i64 (p : Int), .int .i64 R, .int .i64 C, .slice pc D.length kc] 27)).cell? ⟨wr.heap.size, j, none⟩ = some (match j with | 0 => Value.int .i64 (p : Int) | 1 => .int .i64 R | 2 => .int .i64 C | _ => .slice pc D.length kc) from fun j hj =>
                match j, hj with
                | 0, _ => cell_of_blk (heap_alloc_top wr _) (j := 0) rfl
                | 1, _ => cell_of_blk (heap_alloc_top wr _) (j := 1) rfl
                | 2, _ => cell_of_blk (heap_alloc_top wr _) (j := 2) rfl
                | 3, _ => cell_of_blk (heap_alloc_top wr _) (j := 3) rfl)
              have Hone := Lib.hid (show ∀ j, j < 4 → (match j with | 0 => Value.int .i64 (p : Int) | 1 => .int .i64 R | 2 => .int .i64 C | _ => .slice pc D.length kc).oneCell' = true from fun j hj =>
                match j, hj with
                | 0, _ => rfl
                | 1, _ => rfl
                | 2, _ => rfl
                | 3, _ => rfl)
              have Hn1 := Lib.hid (show (fillMs (p : Nat) R C D free k).length + 1 ≤ maxLen by rw [fillMs_length]; unfold maxLen; omega)
              have Hn2 := Lib.hid (show ((fillMs (p : Nat) R C D free k).length + 1) * 48 ≤ 140737488355328 by rw [fillMs_length]; omega)
              have Hlo := Lib.hid (show W0.heap.size ≤ (wr.alloc (.cells #[.int .i64 (p : Int), .int .i64 R, .int .i64 C, .slice pc D.length kc] 27)).heap.size by rw [size_alloc]; have := hbl.size; have := blw.size; omega)
              have Hblw := Lib.hid blw
              have HD2 := Lib.hid hlD2
              clear g1 g2 g3 hx blx blw hst2 hlD2 hal
              go_wp2_with (at_builtin; go_must (refine wpList_append_S rfl (.tmp 54) (.tmp 56) 33 rfl 27 _ 4 48 Try.underlying33 info_mx rfl (by omega) W0.heap.size wo.heap.size _ (fillMs p R C D free k).length (mxF (fillMs p R C D free k) f) rfl g1a.out Hlo.out _ _ _ rfl Hcl.out Hone.out Hn1.out Hn2.out ?_; intro v' w' hv hg))
              go_roundg (X - (k + 1))
              case measure => omega
              case rel =>
                have hgb := grownBy_below hg g1a.out.blocks (Nat.le_refl _) Hlo.out
                refine ⟨k + 1, by omega, rfl, by go_num, hbl.trans ((Hblw.out.mono hbl.size).trans ((below_alloc wr _).mono (Nat.le_trans hbl.size Hblw.out.size) |>.trans hgb)), ?_⟩
                show OwnMs _ _ _ _ _
                rw [fillMs_succ, HD2.out]
                exact OwnMs.snoc g1a.out g2a.out G3.out Hx.out hbl.size (by rw [size_alloc]; have := Hblw.out.size; omega) hg hg.size hv
            · obtain ⟨i, rfl⟩ : ∃ i, t = i + 1 := ⟨t - 1, by omega⟩
              rw [show ((i + 1 : Nat) : Int) - 1 = (i : Int) by omega]
              obtain ⟨bf, off, rfl, hcell⟩ := Hcc.out (by omega)
              obtain ⟨F, hF⟩ : ∃ F, F = free.getD i 0 := ⟨_, rfl⟩
              have hFD : F < D.length := by rw [hF]; exact free_at Hb.out (by omega)
              have hof := HO1.out.fn
              rw [HlD.out] at hof
              obtain ⟨g, rfl, hg1, hg2, _⟩ := hof.at_ (by omega)
              have e1 := hof.cell hFD
              have e2 := hof.frozen F
              obtain ⟨y, e1⟩ : ∃ y, wr.cell? ⟨g, F, none⟩ = some y := ⟨_, e1⟩
              obtain ⟨b0, b1, b2, b3, bf', bz'⟩ := blk4 (HF.out.blk ZB3.out (by omega))
              obtain ⟨x0, x1, x2, x3, xf, xz⟩ := blk4 (HF.out.blk ZX.out (by omega))
              have c1 : wr.cell? ⟨bf, off + i, none⟩ = some (.int .i64 (F : Int)) := by
                have hcl := hcell i (by omega)
                unfold iv at hcl
                rw [nats_getD free (by omega), ← hF] at hcl
                have hlt1 := World.block_lt_of_cell? w _ hcl
                have hbw : Below w.heap.size w wr := Hbl.out.trans ((hbl.mono Hbl.out.size).trans ((HB3.out.mono (Nat.le_trans Hbl.out.size hbl.size)).trans (HF.out.below (by have := Hbl.out.size; have := hbl.size; have := HB3.out.size; omega) (by have := Hbl.out.size; have := hbl.size; have := HB3.out.size; omega))))
                rw [hbw.cell hlt1]; exact hcl
              have i1 : (0 : Int) ≤ (i : Int) := by omega
              have i2 : (i : Int) < (free.length : Int) := by omega
              have i3 : (0 : Int) ≤ (F : Int) := by omega
              have i4 : (F : Int) < (D.length : Int) := by omega
              have hp0 : ¬ p = 0 := by omega
              have hp1 : ¬ (p : Int) = 0 := by omega
              have HFv := Lib.hid hF
              obtain ⟨r1, hr1⟩ : ∃ x, x = r % p := ⟨_, rfl⟩
              obtain ⟨r2, hr2⟩ : ∃ x, x = r / p := ⟨_, rfl⟩
              have h1 := Lib.hid (show (r : Int) % (p : Int) = (r1 : Int) by rw [hr1]; rfl)
              have h1' := Lib.hid (show (r : Int).tmod (p : Int) = (r1 : Int) by rw [Int.tmod_eq_emod_of_nonneg (by omega)]; exact h1.out)
              have h2' := Lib.hid (show (r : Int) / (p : Int) = (r2 : Int) by rw [hr2]; rfl)
              have h3' := Lib.hid (show (r : Int).tdiv (p : Int) = (r2 : Int) by rw [Int.tdiv_eq_ediv_of_nonneg (by omega)]; exact h2'.out)
              have hr2k : r2 ≤ k := by rw [hr2]; exact Nat.le_trans (Nat.div_le_self _ _) hr
              have Hr1 := Lib.hid hr1
              have Hr2 := Lib.hid hr2
              clear hF hof hcell hr1 hr2
              go_wp2_with fail
              have f1 := h1.out
              have f2 := h1'.out
              go_still_tail 11, (by kernel_rfl)
              change wpList _ _ _ _ _ wr.drew
              clear f1 f2
              have f1 := h2'.out
              have f2 := h3'.out
              go_wp2_with fail
              clear f1 f2 b0 b1 b2 b3 bf' bz' x0 x1 x2 x3 xf xz e1 e2 c1
              go_roundg (i + 1)
              case measure => omega
              case rel =>
                refine ⟨i, r2, D'.set F (r1 : Int), by omega, rfl, rfl, rfl, hr2k, (HF.out.drewN 1).setCell hg1 hg2 _, OwnI.setI (Own.drewN HO1.out 1) (by rw [HlD.out]; exact hFD) _, ?_⟩
                show fillSt p D free k (free.length - i) = _
                rw [show free.length - i = (free.length - (i + 1)) + 1 by omega]
                unfold fillSt
                rw [Hst.out, show free.length - 1 - (free.length - (i + 1)) = i by omega, ← HFv.out, ← Hr1.out, ← Hr2.out]
        · obtain rfl : k = X := by omega
          have hkl2 : ¬ (k : Int) < (k : Int) := by omega
          obtain ⟨pv, kv, rfl, _, _⟩ := hO.out.shape
          go_wp2_with fail
          go_ret2
          exact ⟨_, rfl, hO.out.mono (by rw [Hsz.out]; omega) (Nat.le_refl _), Hbl.out.trans (hbl.mono Hbl.out.size)⟩

set_option maxRecDepth 100000 in
set_option maxHeartbeats 4000000 in
theorem l7Fill_any (p : Nat) (R C : Int) (d fr : Value) (D : List Int) (free : List Nat) (w : World) (hd : Ints w d D) (hf : Ints w fr (nats free)) (h2 : 2 ≤ p) (h7 : p ≤ 7)
    (hb : ∀ t ∈ free, t < D.length) (hD : D.length ≤ 49) (hl : free.length ≤ 49) (hp : p ^ free.length ≤ 400) :
    Calls Try.prog 40 #[.agg #[.int .i64 (p : Int), .int .i64 R, .int .i64 C, d], fr] w fun e w' =>
      ∃ v, e = .returned v ∧ OwnMs w' w.heap.size w'.heap.size v (fillMs p R C D free (p ^ free.length)) ∧ Below w.heap.size w w' := by
  obtain ⟨N, hN⟩ : ∃ N, N = p ^ free.length := ⟨_, rfl⟩
  rw [← hN] at hp ⊢
  have HN := Lib.hid hN
  have Hd := Lib.hid hd
  have Hf := Lib.hid hf
  have Hb := Lib.hid hb
  obtain ⟨q, cap, rfl, ⟨hc1, hc2⟩, hcc⟩ := hf
  obtain ⟨qd, capd, rfl, ⟨hd1, hd2⟩, _⟩ := hd
  unfold maxLen at hc2 hd2
  have Hcc := Lib.hid hcc
  rw [nats_length] at *
  have HlF := Lib.hid (nats_length free)
  have Z := Lib.hid (heap_alloc_top w (.cells #[.int .i64 (p : Int), .int .i64 R, .int .i64 C, .slice qd D.length capd] 27))
  have Hpc := Lib.hid hp
  rw [HN.out] at hp
  have Hpp := Lib.hid hp
  clear hp
  have hp := Hpc.out
  clear hN hb hcc
  go_enter Try.func40, Try.ntmps40
  go_wp2_with fail
  refine (l7Power_any p free.length _ h2 h7 (by omega)).mono ?_
  rintro e w' ⟨X, rfl, _, hX1, _, rfl⟩
  have hXN : X = N := by rw [hX1 Hpp.out, HN.out]
  subst hXN
  clear hX1
  obtain ⟨W0, hW0⟩ : ∃ x, x = w.alloc (.cells #[.int .i64 (p : Int), .int .i64 R, .int .i64 C, .slice qd D.length capd] 27) := ⟨_, rfl⟩
  have Hbl := Lib.hid (show Below w.heap.size w W0 by rw [hW0]; exact below_alloc _ _)
  have hsz : W0.heap.size = w.heap.size + 1 := by rw [hW0]; simp
  have Z0 := Lib.hid Z.out
  have Z1 := Z0.out
  rw [← hW0] at Z1 ⊢
  have ZB := Lib.hid Z1
  obtain ⟨b0, b1, b2, b3, bf, bz⟩ := blk4 Z1
  have Hsz := Lib.hid hsz
  clear hW0 Z Z0 Z1 hsz
  go_wp2_with fail
  clear b0 b1 b2 b3 bf
  go_loopg [5, 7] X (fun gg s5 s7 wr => ∃ k : Nat, k ≤ X ∧ gg = X - k ∧ s7 = .int .i64 k ∧ Below W0.heap.size W0 wr ∧ Hid (OwnMs wr W0.heap.size wr.heap.size s5 (fillMs p R C D free k)))
  case atStart => 
      refine ⟨0, Nat.zero_le _, rfl, rfl, below_alloc _ _, ?_⟩
      have h := (OwnMs.made0 W0).mono (Nat.le_refl _) (show W0.heap.size + 1 ≤ (W0.alloc (.cells #[] 27)).heap.size by rw [size_alloc]; exact Nat.le_refl _)
      show OwnMs _ _ _ (.slice (some ⟨w.heap.size + 1, 0, none⟩) 0 0) _
      rw [← Hsz.out]
      exact h
  case round =>
    obtain ⟨k, hk, rfl, rfl, hbl, hO⟩ := hrel
    by_cases hkl : k < X
    · have hkl2 : (k : Int) < (X : Int) := by omega
      obtain ⟨wo, rfl⟩ : ∃ x : World, x = wr := ⟨_, rfl⟩
      obtain ⟨z0, z1, z2, z3, zf, zz⟩ := blk4 (blk_later ZB.out hbl)
      have Hdw := Lib.hid (Hd.out.below (Hbl.out.trans (hbl.mono Hbl.out.size)))
      have HO := Lib.hid hO.out
      clear hO
      go_wp2_with fail
      refine (l7Copy_any _ _ _ _ D _ Hdw.out (by omega)).mono ?_
      rintro e w2 ⟨u, rfl, ho, hb2⟩
      dsimp only at ho ⊢
      obtain ⟨pc, kc, rfl, _, _⟩ := ho.shape
      have Ho := Lib.hid ho
      have Hb2 := Lib.hid hb2
      clear ho hb2
      go_wp2_with fail
      clear z0 z1 z2 z3 zf
      obtain ⟨w3, hw3⟩ : ∃ x, x = w2.alloc (.cells #[.int .i64 (p : Int), .int .i64 R, .int .i64 C, .slice pc D.length kc] 27) := ⟨_, rfl⟩
      have hzx : w3.heap[w2.heap.size]? = some (.cells #[.int .i64 (p : Int), .int .i64 R, .int .i64 C, .slice pc D.length kc] 27) := by rw [hw3]; exact heap_alloc_top _ _
      have hod : OwnI 3 w3 wo.heap.size w2.heap.size (.slice pc D.length kc) D := by
        rw [hw3]; exact Ho.out.below (below_alloc _ _)
      have hb3 : Below wo.heap.size wo w3 := by
        rw [hw3]; exact Hb2.out.trans ((below_alloc _ _).mono Hb2.out.size)
      have hs3 : w3.heap.size = w2.heap.size + 1 := by rw [hw3, size_alloc]
      have hs2 : wo.heap.size ≤ w2.heap.size := Hb2.out.size
      rw [← hw3]
      clear hw3
      have ZX := Lib.hid hzx
      have ZB3 := Lib.hid (blk_later (blk_later ZB.out hbl) hb3)
      have HB3 := Lib.hid hb3
      have Hfw := Lib.hid (Hf.out.below (Hbl.out.trans ((hbl.mono Hbl.out.size).trans (hb3.mono (Nat.le_trans Hbl.out.size hbl.size)))))
      obtain ⟨lo', hi', hto, hin⟩ := hod.tight
      have Hin := Lib.hid hin
      have Hto := Lib.hid hto
      have Hod := Lib.hid hod
      clear hod hto hin hzx Hb2 Ho
      have hlo : (wo.heap.size ≤ lo' ∧ hi' ≤ w2.heap.size) ∨ hi' ≤ lo' := by
        rcases Nat.lt_or_ge lo' hi' with h | h
        · left
          have h1 := Hin.out lo' (Nat.le_refl _) h
          have h2 := Hin.out (hi' - 1) (by omega) (by omega)
          omega
        · exact Or.inr h
      go_loopg [9, 10] (free.length + 1) (fun gg s9 s10 wq => ∃ (t r : Nat) (D' : List Int), t ≤ free.length ∧ gg = t + 1 ∧ s10 = .int .i64 ((t : Int) - 1) ∧ s9 = .int .i64 (r : Int) ∧ r ≤ k ∧ Frm lo' hi' w3 wq ∧ Hid (OwnI 3 wq lo' hi' (.slice pc D.length kc) D') ∧ Hid (fillSt p D free k (free.length - t) = (D', r)))
      case atStart => exact ⟨free.length, k, D, Nat.le_refl _, rfl, rfl, rfl, Nat.le_refl _, Frm.refl _ _ _, Hto.out, by simp [Hid, fillSt]⟩
      case round =>
        obtain ⟨t, r, D', ht, rfl, rfl, rfl, hr, hF, hO1, hst⟩ := hrel
        have hlD : D'.length = D.length := by have := fillSt_length p D free k (free.length - t); rw [hst.out] at this; exact this
        have HlD := Lib.hid hlD
        have HF := Lib.hid hF
        have HO1 := Lib.hid hO1.out
        have Hst := Lib.hid hst.out
        clear hO1 hst hlD hF
        by_cases ht0 : t = 0
        · subst ht0
          rw [show ((0 : Nat) : Int) - 1 = -1 from rfl]
          obtain ⟨x0, x1, x2, x3, xf, xz⟩ := blk4 (HF.out.blk ZX.out (by omega))
          have hst2 := Hst.out
          rw [Nat.sub_zero] at hst2
          have hlD2 : (fillSt p D free k free.length).1 = D' := by rw [hst2]
          have blx : Below wo.heap.size w3 wr := by
            have hB := HB3.out.size
            refine ⟨HF.out.os, HF.out.tape, HF.out.output, HF.out.size, fun b hb => HF.out.block b (by omega) (by omega)⟩
          have blw : Below wo.heap.size wo wr := HB3.out.trans blx
          obtain ⟨f, g1, g2, g3⟩ := HO.out.below blw
          have hal := below_alloc wr (.cells #[.int .i64 (p : Int), .int .i64 R, .int .i64 C, .slice pc D.length kc] 27)
          have g1a := Lib.hid (g1.below hal)
          have g2a := Lib.hid fun i hi => (g2 i hi).below hal
          have G3 := Lib.hid g3
          have hx : OwnI 3 (wr.alloc (.cells #[.int .i64 (p : Int), .int .i64 R, .int .i64 C, .slice pc D.length kc] 27)) wo.heap.size (wr.alloc (.cells #[.int .i64 (p : Int), .int .i64 R, .int .i64 C, .slice pc D.length kc] 27)).heap.size (.slice pc D.length kc) D' :=
            (HO1.out.below hal).widen fun b hb => by
              have h1 := Own.block HO1.out hb
              rw [size_alloc]; omega
          have Hx := Lib.hid hx
          have Hcl := Lib.hid (show ∀ j, j < 4 → (wr.alloc (.cells #[.int .i64 (p : Int), .int .i64 R, .int .i64 C, .slice pc D.length kc] 27)).cell? ⟨wr.heap.size, j, none⟩ = some (match j with | 0 => Value.int .i64 (p : Int) | 1 => .int .i64 R | 2 => .int .i64 C | _ => .slice pc D.length kc) from fun j hj =>
            match j, hj with
            | 0, _ => cell_of_blk (heap_alloc_top wr _) (j := 0) rfl
            | 1, _ => cell_of_blk (heap_alloc_top wr _) (j := 1) rfl
            | 2, _ => cell_of_blk (heap_alloc_top wr _) (j := 2) rfl
            | 3, _ => cell_of_blk (heap_alloc_top wr _) (j := 3) rfl)
          have Hone := Lib.hid (show ∀ j, j < 4 → (match j with | 0 => Value.int .i64 (p : Int) | 1 => .int .i64 R | 2 => .int .i64 C | _ => .slice pc D.length kc).oneCell' = true from fun j hj =>
            match j, hj with
            | 0, _ => rfl
            | 1, _ => rfl
            | 2, _ => rfl
            | 3, _ => rfl)
          have Hn1 := Lib.hid (show (fillMs (p : Nat) R C D free k).length + 1 ≤ maxLen by rw [fillMs_length]; unfold maxLen; omega)
          have Hn2 := Lib.hid (show ((fillMs (p : Nat) R C D free k).length + 1) * 48 ≤ 140737488355328 by rw [fillMs_length]; omega)
          have Hlo := Lib.hid (show W0.heap.size ≤ (wr.alloc (.cells #[.int .i64 (p : Int), .int .i64 R, .int .i64 C, .slice pc D.length kc] 27)).heap.size by rw [size_alloc]; have := hbl.size; have := blw.size; omega)
          have Hblw := Lib.hid blw
          have HD2 := Lib.hid hlD2
          clear g1 g2 g3 hx blx blw hst2 hlD2 hal
          go_wp2_with (at_builtin; go_must (refine wpList_append_S rfl (.tmp 47) (.tmp 49) 33 rfl 27 _ 4 48 Try.underlying33 info_mx rfl (by omega) W0.heap.size wo.heap.size _ (fillMs p R C D free k).length (mxF (fillMs p R C D free k) f) rfl g1a.out Hlo.out _ _ _ rfl Hcl.out Hone.out Hn1.out Hn2.out ?_; intro v' w' hv hg))
          go_roundg (X - (k + 1))
          case measure => omega
          case rel =>
            have hgb := grownBy_below hg g1a.out.blocks (Nat.le_refl _) Hlo.out
            refine ⟨k + 1, by omega, rfl, by go_num, hbl.trans ((Hblw.out.mono hbl.size).trans ((below_alloc wr _).mono (Nat.le_trans hbl.size Hblw.out.size) |>.trans hgb)), ?_⟩
            show OwnMs _ _ _ _ _
            rw [fillMs_succ, HD2.out]
            exact OwnMs.snoc g1a.out g2a.out G3.out Hx.out hbl.size (by rw [size_alloc]; have := Hblw.out.size; omega) hg hg.size hv
        · obtain ⟨i, rfl⟩ : ∃ i, t = i + 1 := ⟨t - 1, by omega⟩
          rw [show ((i + 1 : Nat) : Int) - 1 = (i : Int) by omega]
          obtain ⟨bf, off, rfl, hcell⟩ := Hcc.out (by omega)
          obtain ⟨F, hF⟩ : ∃ F, F = free.getD i 0 := ⟨_, rfl⟩
          have hFD : F < D.length := by rw [hF]; exact free_at Hb.out (by omega)
          have hof := HO1.out.fn
          rw [HlD.out] at hof
          obtain ⟨g, rfl, hg1, hg2, _⟩ := hof.at_ (by omega)
          have e1 := hof.cell hFD
          have e2 := hof.frozen F
          obtain ⟨y, e1⟩ : ∃ y, wr.cell? ⟨g, F, none⟩ = some y := ⟨_, e1⟩
          obtain ⟨b0, b1, b2, b3, bf', bz'⟩ := blk4 (HF.out.blk ZB3.out (by omega))
          obtain ⟨x0, x1, x2, x3, xf, xz⟩ := blk4 (HF.out.blk ZX.out (by omega))
          have c1 : wr.cell? ⟨bf, off + i, none⟩ = some (.int .i64 (F : Int)) := by
            have hcl := hcell i (by omega)
            unfold iv at hcl
            rw [nats_getD free (by omega), ← hF] at hcl
            have hlt1 := World.block_lt_of_cell? w _ hcl
            have hbw : Below w.heap.size w wr := Hbl.out.trans ((hbl.mono Hbl.out.size).trans ((HB3.out.mono (Nat.le_trans Hbl.out.size hbl.size)).trans (HF.out.below (by have := Hbl.out.size; have := hbl.size; have := HB3.out.size; omega) (by have := Hbl.out.size; have := hbl.size; have := HB3.out.size; omega))))
            rw [hbw.cell hlt1]; exact hcl
          have i1 : (0 : Int) ≤ (i : Int) := by omega
          have i2 : (i : Int) < (free.length : Int) := by omega
          have i3 : (0 : Int) ≤ (F : Int) := by omega
          have i4 : (F : Int) < (D.length : Int) := by omega
          have hp0 : ¬ p = 0 := by omega
          have hp1 : ¬ (p : Int) = 0 := by omega
          have HFv := Lib.hid hF
          obtain ⟨r1, hr1⟩ : ∃ x, x = r % p := ⟨_, rfl⟩
          obtain ⟨r2, hr2⟩ : ∃ x, x = r / p := ⟨_, rfl⟩
          have h1 := Lib.hid (show (r : Int) % (p : Int) = (r1 : Int) by rw [hr1]; rfl)
          have h1' := Lib.hid (show (r : Int).tmod (p : Int) = (r1 : Int) by rw [Int.tmod_eq_emod_of_nonneg (by omega)]; exact h1.out)
          have h2' := Lib.hid (show (r : Int) / (p : Int) = (r2 : Int) by rw [hr2]; rfl)
          have h3' := Lib.hid (show (r : Int).tdiv (p : Int) = (r2 : Int) by rw [Int.tdiv_eq_ediv_of_nonneg (by omega)]; exact h2'.out)
          have hr2k : r2 ≤ k := by rw [hr2]; exact Nat.le_trans (Nat.div_le_self _ _) hr
          have Hr1 := Lib.hid hr1
          have Hr2 := Lib.hid hr2
          clear hF hof hcell hr1 hr2
          go_wp2_with fail
          have f1 := h1.out
          have f2 := h1'.out
          go_still_tail 11, (by kernel_rfl)
          change wpList _ _ _ _ _ wr.drew
          clear f1 f2
          have f1 := h2'.out
          have f2 := h3'.out
          go_wp2_with fail
          clear f1 f2 b0 b1 b2 b3 bf' bz' x0 x1 x2 x3 xf xz e1 e2 c1
          go_roundg (i + 1)
          case measure => omega
          case rel =>
            refine ⟨i, r2, D'.set F (r1 : Int), by omega, rfl, rfl, rfl, hr2k, (HF.out.drewN 1).setCell hg1 hg2 _, OwnI.setI (Own.drewN HO1.out 1) (by rw [HlD.out]; exact hFD) _, ?_⟩
            show fillSt p D free k (free.length - i) = _
            rw [show free.length - i = (free.length - (i + 1)) + 1 by omega]
            unfold fillSt
            rw [Hst.out, show free.length - 1 - (free.length - (i + 1)) = i by omega, ← HFv.out, ← Hr1.out, ← Hr2.out]
    · obtain rfl : k = X := by omega
      have hkl2 : ¬ (k : Int) < (k : Int) := by omega
      obtain ⟨pv, kv, rfl, _, _⟩ := hO.out.shape
      go_wp2_with fail
      go_ret
      exact ⟨_, rfl, hO.out.mono (by rw [Hsz.out]; omega) (Nat.le_refl _), Hbl.out.trans (hbl.mono Hbl.out.size)⟩

end Go.Proofs.Ytejoapielndnnaa
