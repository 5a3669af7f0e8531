/-
  allReduced and ReducedWords: all reduced words of a permutation.
  The laws' own comparisons: ints, matrices; how long the code is.
  The identity, as the program makes it; one byte of the code.
  isWord, DemazurePerm, ComposePerms.
  What the law FnTriangle asks of the positions of three flags. Plain.
-/
import Derived.Test.YtpfefjdefopccaaJ13
import Derived.Test.YtpfefjdefopccaaJ1
import Derived.Test.YtpfefjdefopccaaJ10
import Derived.Test.YtpfefjdefopccaaJ12
import Derived.Test.YtpfefjdefopccaaJ4
import Derived.BigRegion
namespace Go.Proofs.Ytpfefjdefopccaa
set_option linter.all false
set_option maxRecDepth 100000
open Go.RowKit

theorem allR_word_len {n : Nat} {xs l : List Int} (h : P5 n xs) (hl : l ∈ allR xs) : l.length ≤ 10 := by
  obtain ⟨r, rfl, _, h2, _⟩ := allR_ok h hl
  rw [List.length_map, h2]
  exact (beg_nil h).2.1
theorem own_cons {w : World} {lo hi : Nat} {v : Value} {x : Int} {l : List Int} (h : OwnF w lo hi 3 v (1 + l.length) (fun j => if j < 1 then .int .i64 x else iv l (j - 1))) : OwnI 3 w lo hi v (x :: l) := by
  refine OwnF.ints ?_
  rw [List.length_cons, Nat.add_comm]
  exact h.congr fun j hj => by
    match j with
    | 0 => rfl
    | j + 1 => simp [iv]
/-- the words that begin with the first t numbers -/
def preR (xs : List Int) (t : Nat) : List (List Int) := ((begK xs).take t).flatMap fun k => (allR (rstK xs k)).map fun l => (k : Int) :: l
theorem preR_succ {xs : List Int} {t : Nat} (h : t < (begK xs).length) : preR xs (t + 1) = preR xs t ++ (allR (rstK xs ((begK xs)[t]))).map fun l => (((begK xs)[t] : Nat) : Int) :: l := by
  unfold preR
  rw [List.take_succ_eq_append_getElem h, List.flatMap_append]
  simp
theorem preR_len {n : Nat} {xs : List Int} (h : P5 n xs) (t : Nat) : (preR xs t).length ≤ 4 * 768 := by
  unfold preR
  rw [List.length_flatMap]
  have h1 : ∀ l : List Nat, (∀ k ∈ l, k ∈ begK xs) → ((l.map fun k => ((allR (rstK xs k)).map fun l => (k : Int) :: l).length).sum ≤ l.length * 768) := fun l => by
    induction l with
    | nil => intro _; simp
    | cons a l ih =>
      intro hl
      have i1 := ih fun k hk => hl k (List.mem_cons_of_mem _ hk)
      have i2 := (cnt_le (rst_ok h (hl a List.mem_cons_self)).1).2
      rw [← allR_len] at i2
      simp only [List.map_cons, List.sum_cons, List.length_cons, List.length_map] at i1 ⊢
      omega
  have h2 := h1 ((begK xs).take t) fun k hk => List.mem_of_mem_take hk
  have h3 := beg_len h
  have h4 : ((begK xs).take t).length ≤ 4 := by rw [List.length_take]; omega
  exact Nat.le_trans h2 (Nat.mul_le_mul h4 (Nat.le_refl _))

theorem fresh_one (w : World) (x : Value) (T : TypeId) : OwnF (w.alloc (.cells #[x] T)) w.heap.size (w.heap.size + 1) T (.slice (some ⟨w.heap.size, 0, none⟩) 1 1) 1 (fun _ => x) :=
  OwnF.mk' (F := fun _ => x) ⟨#[x], heap_alloc_top _ _, rfl, fun i hi => by
    obtain rfl : i = 0 := by simp at hi; omega
    rfl⟩ (Nat.le_refl _) (by omega) (Nat.le_refl _) (by unfold maxLen; omega) (fun _ _ => rfl)
theorem one_row {w2 w3 : World} (lo : Nat) (hs2 : lo ≤ w2.heap.size) (hs3 : w3.heap.size = w2.heap.size + 1) (hr1 : OwnI 3 w3 w2.heap.size (w2.heap.size + 1) (.slice (some ⟨w2.heap.size, 0, none⟩) 0 0) []) :
    OwnII 24 3 (w3.alloc (.cells #[.slice (some ⟨w2.heap.size, 0, none⟩) 0 0] 24)) lo (w3.alloc (.cells #[.slice (some ⟨w2.heap.size, 0, none⟩) 0 0] 24)).heap.size (.slice (some ⟨w2.heap.size + 1, 0, none⟩) 1 1) [[]] := by
  have hs4 := size_alloc w3 (.cells #[.slice (some ⟨w2.heap.size, 0, none⟩) 0 0] 24)
  refine ⟨fun _ => .slice (some ⟨w2.heap.size, 0, none⟩) 0 0, ?_, fun i hi => ?_, fun i j hij hj => ?_⟩
  · refine ⟨[.slice (some ⟨w2.heap.size, 0, none⟩) 0 0], Own.of_rowIs (g := w2.heap.size + 1) (n := 1) (cap := 1) (F := fun _ => .slice (some ⟨w2.heap.size, 0, none⟩) 0 0) ⟨#[.slice (some ⟨w2.heap.size, 0, none⟩) 0 0], by rw [← hs3]; exact heap_alloc_top _ _, rfl, fun i hi => ?_⟩ (by omega) (by rw [hs4, hs3]; omega) (Nat.le_refl _) (by unfold maxLen; omega) rfl (fun j hj => ?_), fun j hj => ?_⟩
    · obtain rfl : i = 0 := by omega
      rfl
    · obtain rfl : j = 0 := by omega
      rfl
    · obtain rfl : j = 0 := by simpa using hj
      rfl
  · obtain rfl : i = 0 := by simpa using hi
    exact (hr1.below (below_alloc _ _)).mono hs2 (by rw [hs4, hs3]; omega)
  · simp at hj; omega

set_option maxHeartbeats 2000000 in
theorem allReduced_go (n : Nat) (f : Nat) : ∀ (xs : List Int) (v : Value) (w : World), lnN xs ≤ f → P5 n xs → Ints w v xs →
    Calls Try.prog 23 #[v] w (RetII w (allR xs)) := by
  induction f using Nat.strongRecOn with
  | _ f ih =>
    intro xs v w hl hp hv
    have Ih := Lib.hid ih
    have Hv := Lib.hid hv
    have Hp := Lib.hid hp
    have Hl := Lib.hid hl
    have hx7 : xs.length ≤ 7 := by have := hp.len; have := hp.le; omega
    obtain ⟨p, cap, rfl, ⟨hx1, hx⟩, _⟩ := hv
    unfold maxLen at hx
    obtain ⟨rests, hrests⟩ : ∃ r, r = bgR xs (xs.length - 1) := ⟨_, rfl⟩
    obtain ⟨nums, hnums⟩ : ∃ r, r = bgN xs (xs.length - 1) := ⟨_, rfl⟩
    obtain ⟨T, hT⟩ : ∃ T, T = (begK xs).length := ⟨_, rfl⟩
    have hT4 : T ≤ 4 := by rw [hT]; exact beg_len hp
    have hnl : nums.length = T := by rw [hnums, hT]; unfold bgN; rw [List.length_map, bgA_all]
    have hrl : rests.length = T := by rw [hrests, hT, bgR_all, List.length_map]
    have HT := Lib.hid hT
    have Hrests := Lib.hid hrests
    have Hnums := Lib.hid hnums
    have Hnl := Lib.hid hnl
    have Hrl := Lib.hid hrl
    clear ih hp hl hT hnl hrl
    go_enter Try.func23, Try.ntmps23
    go_wp2_with fail
    refine (beginnings_any _ xs _ Hv.out Hp.out.ok).mono ?_
    rintro e w2 ⟨u1, u2, g, rfl, hB, hb2⟩
    rw [← hrests, ← hnums] at hB
    clear hrests hnums
    have Hni := Lib.hid hB.num.ints
    have Hri := Lib.hid hB.ii.rd
    obtain ⟨q1, k1, rfl, _, _⟩ := hB.num.shape
    obtain ⟨q2, k2, rfl, _, _⟩ := hB.out.shape
    have Hb2 := Lib.hid hb2
    have hs2 := hb2.size
    have Hnl2 := Hnl.out
    rw [Hnl2] at Hni ⊢
    rw [Hrl.out] at Hri ⊢
    clear hB hb2 Hnl2
    rcases Nat.eq_zero_or_pos T with h0 | h0
    · subst h0
      have e0 : allR xs = [[]] := by
        rw [all_step Hp.out, if_pos (List.length_eq_zero_iff.1 HT.out.symm)]
      have E0 := Lib.hid e0
      clear e0
      go_wp2_with fail
      go_ret
      rw [E0.out]
      have hm0 := OwnF.made0 w2 3 (iv [])
      have hr1 : OwnI 3 (w2.alloc (.cells #[] 3)) w2.heap.size (w2.heap.size + 1) (.slice (some ⟨w2.heap.size, 0, none⟩) 0 0) [] := OwnF.ints (xs := []) hm0
      have hs3 : (w2.alloc (.cells #[] 3)).heap.size = w2.heap.size + 1 := size_alloc _ _
      exact ⟨_, rfl, one_row w.heap.size hs2 hs3 hr1, Hb2.out.trans ((below_alloc2 _ _ _).mono hs2)⟩
    · have hne : ((T : Int) == 0) = false := by simp; omega
      obtain ⟨f', rfl⟩ : ∃ f', f = f' + 1 := by
        refine ⟨f - 1, ?_⟩
        have h1 : lnN xs ≠ 0 := fun e => by
          have e0 := (beg_nil Hp.out).1.2 e
          have := HT.out
          rw [e0] at this
          simp at this; omega
        have := Hl.out
        omega
      have Hrow : Hid (∀ i, (hi : i < T) → ∃ k : Nat, nums.getD i 0 = (k : Int) ∧ k ≤ 10 ∧ rests.getD i [] = rstK xs k ∧ P5 n (rstK xs k) ∧ lnN (rstK xs k) ≤ f' ∧ preR xs (i + 1) = preR xs i ++ (allR (rstK xs k)).map fun l => (k : Int) :: l) := Lib.hid fun i hi => by
        have hi2 : i < (begK xs).length := by rw [← HT.out]; exact hi
        have hm := List.getElem_mem hi2
        obtain ⟨r1, r2, _⟩ := rst_ok Hp.out hm
        refine ⟨(begK xs)[i], ?_, ?_, ?_, r1, by have := Hl.out; omega, preR_succ hi2⟩
        · rw [Hnums.out]; unfold bgN; rw [bgA_all]; simp [List.getD_eq_getElem?_getD, hi2]
        · have := beg_lt Hp.out hm
          have := Hp.out.le
          omega
        · rw [Hrests.out, bgR_all]; simp [List.getD_eq_getElem?_getD, hi2]
      have HAll : Hid (preR xs T = allR xs) := Lib.hid (by
        have e0 : ¬ begK xs = [] := fun e0 => by
          have := HT.out
          rw [e0] at this
          simp at this; omega
        rw [all_step Hp.out, if_neg e0, HT.out]
        unfold preR
        rw [List.take_length])
      go_wp2_with fail
      go_loopg [5, 23] T (fun gg s5 i wr => ∃ t, t ≤ T ∧ gg = T - t ∧ i = .int .i64 (t : Nat) ∧ Hid (OwnII 24 3 wr w2.heap.size wr.heap.size s5 (preR xs t)) ∧ Hid (Below w2.heap.size w2 wr))
      case atStart => exact ⟨0, Nat.zero_le _, rfl, rfl, ⟨fun _ => undef, (OwnF.made0 w2 _ _).mono (Nat.le_refl _) (by simp), fun i hi => absurd hi (by simp [preR]), fun i j _ hj => absurd hj (by simp [preR])⟩, below_alloc _ _⟩
      case round =>
        obtain ⟨t, ht, rfl, rfl, hO, hb⟩ := hrel
        obtain ⟨wo, rfl⟩ : ∃ x : World, x = wr := ⟨_, rfl⟩
        obtain ⟨p5, k5, rfl, _, _⟩ := hO.out.shape
        by_cases hlt : t < T
        · have hti : (t : Int) < (T : Int) := by omega
          obtain ⟨k, hk1, hk2, hk3, hk4, hk5, hk6⟩ := Hrow.out t hlt
          have hni := Hni.out.below hb.out
          have hri := Hri.out.below hb.out
          obtain ⟨_, _, en, _, hcn⟩ := hni
          obtain ⟨F, ⟨_, _, er, _, hcr⟩, hrr⟩ := hri
          injection en with en1 en2 en3
          injection er with er1 er2 er3
          subst en1 er1 en3 er3
          rw [Hnl.out] at hcn
          rw [Hrl.out] at hcr hrr
          obtain ⟨bn, on, rfl, hcn'⟩ := hcn h0
          obtain ⟨br, or_, rfl, hcr'⟩ := hcr h0
          have c1 := hcn' t hlt
          have c2 := hcr' t hlt
          have hrt := hrr t hlt
          unfold iv at c1
          rw [hk1] at c1
          rw [hk3] at hrt
          have Hrt := Lib.hid hrt
          obtain ⟨px, kx, hxe, _⟩ := hrt
          rw [hxe] at c2 Hrt
          have Hk4 := Lib.hid hk4
          have Hk5 := Lib.hid hk5
          have Hk6 := Lib.hid hk6
          obtain ⟨L, hL⟩ : ∃ L, L = allR (rstK xs k) := ⟨_, rfl⟩
          have hL768 : L.length ≤ 768 := by rw [hL, allR_len]; exact (cnt_le hk4).2
          have HLw : Hid (∀ i, i < L.length → (L.getD i []).length ≤ 10) := Lib.hid fun i hi => by
            refine allR_word_len hk4 ?_
            rw [← hL]
            simp [List.getD_eq_getElem?_getD, hi]
          have hpl := preR_len Hp.out t
          rw [← hL] at Hk6
          obtain ⟨rows, hrows⟩ : ∃ r, r = preR xs t := ⟨_, rfl⟩
          rw [← hrows] at hO hpl Hk6 ⊢
          have HL := Lib.hid hL
          have HO := Lib.hid hO.out
          have hsb := hb.out.size
          clear hcn hcr hcn' hcr' hrr hk1 hk3 hk4 hk5 hk6 hxe en2 er2 hrows hL hO
          go_wp2_with fail
          refine (Ih.out f' (by omega) (rstK xs k) _ _ Hk5.out Hk4.out Hrt.out).mono ?_
          rintro e w4 ⟨u4, rfl, ho4, hb4⟩
          rw [← HL.out] at ho4
          obtain ⟨p4, k4, rfl, _, _⟩ := ho4.shape
          have Ho4 := Lib.hid ho4
          have Hb4 := Lib.hid (hb.out.trans (hb4.mono hsb))
          have hs4 := hb4.size
          have HO4 := Lib.hid ((HO.out.below hb4).mono (Nat.le_refl _) hs4)
          have Hblk : Hid (∀ b, (Value.slice p5 rows.length k5).ownBlock = some b → b < wo.heap.size ∨ w4.heap.size ≤ b) := Lib.hid fun b hbb => by
            obtain ⟨_, q, _⟩ := HO.out
            exact .inl (q.blocks b hbb).2
          clear ho4 hb4 HO
          go_wp2_with fail
          go_loopg [5, 34] L.length (fun gg s5 i wr => ∃ j, j ≤ L.length ∧ gg = L.length - j ∧ i = .int .i64 (j : Nat) ∧ Hid (OwnII 24 3 wr w2.heap.size wr.heap.size s5 (rows ++ (L.take j).map fun l => (k : Int) :: l)) ∧
            Hid (OwnII 24 3 wr wo.heap.size w4.heap.size (.slice p4 L.length k4) L) ∧ Hid (∀ b, s5.ownBlock = some b → b < wo.heap.size ∨ w4.heap.size ≤ b) ∧ Hid (Below w2.heap.size w2 wr) ∧ w4.heap.size ≤ wr.heap.size)
          case atStart => exact ⟨0, Nat.zero_le _, rfl, rfl, by rw [List.take_zero, List.map_nil, List.append_nil]; exact HO4.out, Ho4.out, Hblk.out, Hb4.out, Nat.le_refl _⟩
          case round =>
            obtain ⟨j, hj, rfl, rfl, hO, hLo, hbk, hbw, hsw⟩ := hrel
            obtain ⟨wr, rfl⟩ : ∃ x : World, x = wr := ⟨_, rfl⟩
            obtain ⟨p6, k6, rfl, _, _⟩ := hO.out.shape
            obtain ⟨cur, hcur⟩ : ∃ c, c = rows ++ (L.take j).map fun l => (k : Int) :: l := ⟨_, rfl⟩
            rw [← hcur] at hO hbk ⊢
            have hcl : cur.length ≤ 4000 := by rw [hcur, List.length_append, List.length_map, List.length_take]; omega
            by_cases hjl : j < L.length
            · have hji : (j : Int) < (L.length : Int) := by omega
              have hLi := HLw.out j hjl
              have hcur2 : cur ++ [(k : Int) :: L.getD j []] = rows ++ (L.take (j + 1)).map fun l => (k : Int) :: l := by
                rw [hcur, List.take_succ_eq_append_getElem hjl, List.map_append, List.append_assoc]
                simp [List.getD_eq_getElem?_getD, hjl]
              obtain ⟨f4, l1, l2, l3⟩ := hLo.out
              obtain ⟨b4, rfl, _, _, _⟩ := l1.at_ (by omega)
              have c4 := l1.cell hjl
              have hwi := (l2 j hjl).ints
              obtain ⟨word, hword⟩ : ∃ x, x = L.getD j [] := ⟨_, rfl⟩
              rw [← hword] at hwi hLi hcur2
              have Hwi := Lib.hid hwi
              obtain ⟨pw, kw, hwe, _⟩ := hwi
              rw [hwe] at c4 Hwi
              obtain ⟨f1, g1, g2, g3⟩ := hO.out
              have G1 := Lib.hid g1
              have G2 := Lib.hid g2
              have G3 := Lib.hid g3
              have Hcur2 := Lib.hid hcur2
              have Hc1 := Lib.hid (show 1 + word.length ≤ maxLen by unfold maxLen; omega)
              have Hc2 := Lib.hid (show (1 + word.length) * 8 ≤ 140737488355328 by omega)
              have Hd1 := Lib.hid (show cur.length + 1 ≤ maxLen by unfold maxLen; omega)
              have Hd2 := Lib.hid (show (cur.length + 1) * 24 ≤ 140737488355328 by omega)
              have hs2w := hbw.out.size
              clear hcur hcur2 l1 l2 l3 hwe g1 g2 g3 hword hO
              go_wp2_with (first
                | (at_builtin; (refine wpList_append_F rfl (.tmp 40) (.tmp 41) 24 rfl 3 (.int .i64 0) 8 Try.underlying24 info_int rfl wr.heap.size (wr.heap.size + 1) _ 1 _ rfl (fresh_one wr (.int .i64 (k : Int)) 3) (by simp) (by simp) _ word.length (iv word) rfl (Hwi.out.below (below_alloc _ _)) (fun j _ => iv_one _ j) Hc1.out Hc2.out ?_; intro v7 w7 ho7 hg7; obtain ⟨p7, k7, rfl, _, _⟩ := ho7.shape; have hb7 : Below wr.heap.size wr w7 := (below_alloc wr _).trans (grownBy_below2 hg7 (fresh_one wr (.int .i64 (k : Int)) 3) (Nat.le_refl _) (by simp))))
                | (at_builtin; (refine wpList_append_G rfl (.tmp 38) (.tmp 43) 30 rfl 24 (.slice none 0 0) 24 Try.underlying30 info_sl rfl w2.heap.size wr.heap.size _ cur.length f1 rfl (G1.out.below (hb7.trans ((below_alloc w7 _).mono hb7.size))) (by have := hb7.size; simp; omega) (by have := hb7.size; simp; omega) _ 1 _ rfl (rd_one _ _ _ rfl) (fun j _ => rfl) Hd1.out Hd2.out ?_; intro v8 w8 ho8 hg8 hw8)))
              have hs7 := hb7.size
              have hs8 : w7.heap.size + 1 ≤ w8.heap.size := by have := hg8.size; simpa using this
              have hA : Below wr.heap.size wr (w7.alloc (.cells #[.slice p7 (1 + word.length) k7] 24)) := hb7.trans ((below_alloc w7 _).mono hs7)
              have hO8 := OwnII.snoc (xs := (k : Int) :: word) (hi := w7.heap.size) (G1.out.below hA) (fun i hi => (G2.out i hi).below hA) G3.out ((own_cons ho7).below (below_alloc _ _)) (by omega) hs7 (by decide) hg8 (by omega) ho8
              rw [Hcur2.out] at hO8
              have hL7 := (hLo.out.below hA)
              have hL8 := hL7.grown (u := .slice p6 cur.length k6) hg8 (fun b hbb => by rcases hbk.out b hbb with h | h; exact .inl h; exact .inr h)
              have HO8 := Lib.hid hO8
              have HL8 := Lib.hid hL8
              have Hbk8 : Hid (∀ b, v8.ownBlock = some b → b < wo.heap.size ∨ w4.heap.size ≤ b) := Lib.hid fun b hbb => by
                rcases hw8 b hbb with h | h
                · exact hbk.out b h
                · simp only [size_alloc] at h; omega
              have Hb8 := Lib.hid (hbw.out.trans ((hA.mono hs2w).trans (grownBy_below2 hg8 (G1.out.below hA) (Nat.le_refl _) (by simp; omega))))
              obtain ⟨p8, k8, rfl, _, _⟩ := ho8.shape
              clear hO8 hL7 hL8 hA ho8 hg8 hw8 ho7 hg7 hb7 hLo hbk hbw
              go_wp2_with fail
              go_roundg (L.length - (j + 1))
              case measure => omega
              case rel => exact ⟨j + 1, by omega, rfl, by go_num, HO8.out, HL8.out, Hbk8.out, Hb8.out, by omega⟩
            · obtain rfl : j = L.length := by omega
              have hcur2 : cur = preR xs (t + 1) := by rw [hcur, List.take_length]; exact Hk6.out.symm
              have Hcur2 := Lib.hid hcur2
              have HO2 := Lib.hid hO.out
              have hbw2 := hbw.out
              clear hcur hcur2 hO
              go_wp2_with fail
              go_roundg (T - (t + 1))
              case measure => omega
              case rel => exact ⟨t + 1, by omega, rfl, by go_num, by rw [← Hcur2.out]; exact HO2.out, hbw2⟩
        · obtain rfl : t = T := by omega
          have hO2 := hO.out
          rw [HAll.out] at hO2
          have HO2 := Lib.hid hO2
          have Hb := Lib.hid (Hb2.out.trans (hb.out.mono hs2))
          clear hO hO2 hb
          go_wp2_with fail
          go_ret
          exact ⟨_, rfl, by first | exact HO2.out.mono hs2 (Nat.le_refl _) | (rw [HAll.out]; exact HO2.out.mono hs2 (Nat.le_refl _)), Hb.out⟩

set_option maxHeartbeats 1000000 in
theorem ReducedWords_any (n : Nat) (xs : List Int) (v : Value) (w : World) (hp : P5 n xs) (hv : Ints w v xs) :
    Calls Try.prog 7 #[v] w fun e w' => ∃ u, e = .returned (.tuple #[u, .bool true]) ∧ OwnII 24 3 w' w.heap.size w'.heap.size u (allR xs) ∧ Below w.heap.size w w' := by
  have Hv := Lib.hid hv
  have Hp := Lib.hid hp
  obtain ⟨p, cap, rfl, ⟨hx1, hx⟩, _⟩ := hv
  obtain ⟨C, hC⟩ : ∃ C, C = cntR xs := ⟨_, rfl⟩
  have hC1 := cnt_le hp
  rw [← hC] at hC1
  have HC := Lib.hid hC
  have h1 : decide ((C : Int) < 0) = false := by simp
  have h2 : decide (800 < (C : Int)) = false := by simp; omega
  have h3 : ¬ (C : Int) < 0 := by omega
  have h4 : ¬ 800 < (C : Int) := by omega
  clear hp hC
  go_enter Try.func7, Try.ntmps7
  go_wp2_with fail
  refine (CountReduced_any n xs _ _ Hp.out Hv.out).mono ?_
  rintro e w1 ⟨rfl, hb1⟩
  rw [← HC.out]
  have Hb1 := Lib.hid hb1
  clear hb1
  go_wp2_with fail
  refine (allReduced_go n (lnN xs) xs _ _ (Nat.le_refl _) Hp.out (Hv.out.below Hb1.out)).mono ?_
  rintro e w2 ⟨u, rfl, ho, hb⟩
  have hs := Hb1.out.size
  have Ho := Lib.hid (ho.mono hs (Nat.le_refl _))
  have Hb := Lib.hid (Hb1.out.trans (hb.mono hs))
  obtain ⟨p2, k2, rfl, _, _⟩ := ho.shape
  clear ho hb
  go_wp2_with fail
  go_ret2
  exact ⟨_, rfl, Ho.out, Hb.out⟩

end Go.Proofs.Ytpfefjdefopccaa

namespace Go.Proofs.Ytpfefjdefopccaa
set_option linter.all false
open Go.RowKit

set_option maxRecDepth 100000 in
set_option maxHeartbeats 400000 in
theorem lawInts_any (v1 v2 : Value) (xs ys : List Int) (w : World) (h1 : Ints w v1 xs) (h2 : Ints w v2 ys) :
    Calls Try.prog 12 #[v1, v2] w fun e w' => e = .returned (.bool (decide (xs = ys))) ∧ Qt w w' := by
  obtain ⟨p, cap, rfl, ⟨hx1, hx⟩, hxc⟩ := h1
  obtain ⟨q, cap', rfl, ⟨hy1, hy⟩, hyc⟩ := h2
  unfold maxLen at hx hy
  by_cases hl : xs.length = ys.length
  · have e1 : ((xs.length : Int) != (ys.length : Int)) = false := by simp [hl]
    have Hl := Lib.hid hl
    clear hl
    go_enter Try.func12, Try.ntmps12
    go_wp2
    clear e1
    go_loopg [5] xs.length (fun g i wr => ∃ k : Nat, k ≤ xs.length ∧ g = xs.length - k ∧ i = .int .i64 k ∧ Qt w wr ∧ Hid (∀ j, j < k → xs.getD j 0 = ys.getD j 0))
    case atStart => exact ⟨0, Nat.zero_le _, rfl, rfl, Qt.refl _, fun j hj => absurd hj (Nat.not_lt_zero _)⟩
    case round =>
      obtain ⟨k, hk, rfl, rfl, hq, hp⟩ := hrel
      by_cases hlt : k < xs.length
      · obtain ⟨b, off, rfl, hc⟩ := hxc (by omega)
        have hl := Hl.out
        obtain ⟨b', off', rfl, hc'⟩ := hyc (by omega)
        have c1 := hq.cell (hc k hlt)
        have c2 := hq.cell (hc' k (by omega))
        have hk2 : k < ys.length := by omega
        unfold iv at c1 c2
        clear hl hxc hyc hc hc'
        go_wp2
        go_quiet (fail)
        go_wp2
        · have ht : (xs[k] != ys[k]) = true := by assumption
          go_ret
          refine ⟨ret_bool ?_, hq.drewN _⟩
          symm
          simp only [decide_eq_false_iff_not]
          intro e
          subst e
          simp at ht
        · have ht : (xs[k] != ys[k]) = false := by assumption
          go_roundg (xs.length - (k + 1))
          case measure => omega
          case rel =>
            refine ⟨k + 1, by omega, rfl, by go_num, hq.drewN _, eq_snoc hp.out ?_⟩
            have := by simpa using ht
            simpa [List.getD_eq_getElem?_getD, hlt, hk2] using this
      · go_wp2
        go_ret
        refine ⟨ret_bool ?_, hq⟩
        symm
        simp only [decide_eq_true_eq]
        exact getD_eq_list Hl.out fun j hj => hp.out j (by omega)
  · have e1 : ((xs.length : Int) != (ys.length : Int)) = true := by simp; omega
    go_enter Try.func12, Try.ntmps12
    go_wp2
    go_ret
    refine ⟨ret_bool ?_, Qt.refl _⟩
    symm
    simp only [decide_eq_false_iff_not]
    intro e
    exact hl (by rw [e])

set_option maxRecDepth 100000 in
set_option maxHeartbeats 400000 in
theorem big_any (p : Option Addr) (n cap : Nat) (w : World) (hn : n ≤ maxLen) :
    Calls Try.prog 4 #[.slice p n cap] w fun e w' => e = .returned (.bool (decide (1048576 < n))) ∧ w = w' := by
  unfold maxLen at hn
  go_enter Try.func4, Try.ntmps4
  by_cases h : 1048576 < n
  · have h2 : (1048576 : Int) < (n : Int) := by omega
    go_wp2
    go_ret
    exact ⟨ret_bool (by simp [h]), rfl⟩
  · have h2 : ¬ (1048576 : Int) < (n : Int) := by omega
    go_wp2
    go_ret
    exact ⟨ret_bool (by simp [h]), rfl⟩

section
open Go.ChangeShapes Go.WideShapes Go.RowKit Go.Deep Go.WideElems Go.Maps
/-- bytes that came in -/
theorem trod_byts {H : Type} {enc : TypeId × Value → H} {P : Program} {W : World} {m : Nat} {t e : TypeId} {a : Option Addr} {l c : Nat} {y : DataW H × List MemPlace}
    (ht : P.underlying t = some (.slice e)) (he : P.underlying e = some (.int .u8)) (hc : P.cellsOf e = 1)
    (h : DataW.trod enc P W 0 (fun _ => true) true m t [.slice a l c] = some y) : l ≤ maxLen ∧ Byts W (.slice a l c) l := by
  rcases open_ints ht he hc h with ⟨hcs, _⟩ | ⟨x, l', c', zs, hcs, _, hl, hm, hz, _, hcell, _⟩
  · injection hcs with hcs
    injection hcs with h1 h2 h3
    subst h1 h2 h3
    exact ⟨Nat.zero_le _, fun _ => 0, none, 0, rfl, ⟨Nat.le_refl _, Nat.zero_le _⟩, fun h => absurd h (Nat.lt_irrefl _)⟩
  · injection hcs with hcs
    injection hcs with h1 h2 h3
    subst h1 h2 h3
    refine ⟨by omega, fun j => zs.getD j 0, some x, c, rfl, ⟨hl, hm⟩, fun h0 => ?_⟩
    have hz' : zs.length = c := by simpa using hz
    have h0' := hcell 0 (by omega)
    obtain ⟨b, off, spot⟩ := x
    have hs : spot = none := by
      cases spot with
      | none => rfl
      | some s => simp [Addr.add, World.cell?] at h0'; split at h0' <;> simp_all
    subst hs
    refine ⟨b, off, rfl, fun j hj => ?_⟩
    have hadd : (⟨b, off, none⟩ : Addr).add j = ⟨b, off + j, none⟩ := by unfold Addr.add; split <;> simp_all
    rw [← hadd]
    exact hcell j (by omega)
end

end Go.Proofs.Ytpfefjdefopccaa

namespace Go.Proofs.Ytpfefjdefopccaa
set_option linter.all false
open Go.RowKit

/-- bytes that can be read, each in its range -/
def Byts8 (w : World) (v : Value) (n : Nat) : Prop := ∃ f : Nat → Int, (Rd w v n fun j => .int .u8 (f j)) ∧ ∀ j, j < n → 0 ≤ f j ∧ f j ≤ 255
theorem Byts8.byts {w : World} {v : Value} {n : Nat} (h : Byts8 w v n) : Byts w v n := by
  obtain ⟨f, h, _⟩ := h
  exact ⟨f, h⟩
theorem Byts8.below {w w' : World} {v : Value} {n : Nat} (h : Byts8 w v n) (hb : Below w.heap.size w w') : Byts8 w' v n := by
  obtain ⟨f, h, h2⟩ := h
  exact ⟨f, h.below hb, h2⟩

theorem identity_ret (n : Nat) : ∀ j, j < n → (Value.int .i64 (j : Int)) = iv (idL n) j := fun j hj => by rw [iv, idL_getD hj]

set_option maxRecDepth 100000 in
set_option maxHeartbeats 2000000 in
theorem implIdentity_any (n : Nat) (w : World) (h1 : 1 ≤ n) (h7 : n ≤ 7) :
    Calls Try.prog 25 #[.int .i64 (n : Int)] w (RetI w (idL n)) := by
  have hmk := run_make_row' (P := Try.prog) 24 3 (.int .i64 0) 8 Try.underlying24 info_int rfl .i64 .i64 n (by omega) (by omega)
  have hn1 : (1 : Int) ≤ n := by omega
  have hn7 : (n : Int) ≤ 7 := by omega
  have hns : ¬ (n : Int) < 1 := by omega
  have hns2 : ¬ (7 : Int) < n := by omega
  have hs : ∀ w, Calls Try.prog 43 #[.int .i64 (n : Int)] w fun e w' => e = .returned (.bool true) ∧ w = w' := fun w => by
    go_enter Try.func43, Try.ntmps43
    go_wp2_with fail
    go_ret
    exact ⟨rfl, rfl⟩
  go_enter Try.func25, Try.ntmps25
  go_wp2_with fail
  refine (hs w).mono ?_
  rintro e w1 ⟨rfl, rfl⟩
  go_wp2_with fail
  go_loopg [12] n (fun g s14 wr => ∃ k : Nat, k ≤ n ∧ g = n - k ∧ s14 = .int .i64 k ∧ Below w.heap.size w wr ∧ Hid (wr.rowIs w.heap.size 3 n (fun j => .int .i64 (if j < k then (j : Int) else 0))))
  case atStart =>
    refine ⟨0, Nat.zero_le _, rfl, rfl, below_alloc _ _, ?_⟩
    exact (World.rowIs_made w (.int .i64 0) n 3).congr fun j _ => by simp
  case round =>
    obtain ⟨k, hk, rfl, rfl, hbw, hrow⟩ := hrel
    by_cases hlt : k < n
    · obtain ⟨z, c2⟩ : ∃ z, wr.cell? ⟨w.heap.size, k, none⟩ = some (.int .i64 z) := ⟨_, hrow.out.cell hlt⟩
      have c3 := hrow.out.frozen k
      have i1 : (k : Int) < (n : Int) := by omega
      have Hrow := Lib.hid hrow.out
      clear hrow
      go_wp2_with fail
      go_roundg (n - (k + 1))
      case measure => omega
      case rel =>
        refine ⟨k + 1, by omega, rfl, by go_num, hbw.setCell (Nat.le_refl _) _, (Hrow.out.set k _).congr fun j hj => ?_⟩
        by_cases e : j = k
        · subst e; simp
        · have : j < k + 1 ↔ j < k := by omega
          simp [e, this]
    · obtain rfl : k = n := by omega
      have i1 : ¬ (k : Int) < (k : Int) := by omega
      have ho := rowIs_ints (xs := idL k) (by rw [idL_length]; exact hrow.out.congr fun j hj => by rw [iv, idL_getD hj, if_pos hj]) (by rw [idL_length]; unfold maxLen; omega)
      rw [idL_length] at ho
      have Ho := Lib.hid ho
      clear ho hrow
      go_wp2_with fail
      go_ret
      exact ⟨_, rfl, Ho.out, hbw⟩

section
open Go.ChangeShapes Go.WideShapes Go.RowKit Go.Deep Go.WideElems Go.Maps
/-- bytes that came in -/
theorem trod_byts8 {H : Type} {enc : TypeId × Value → H} {P : Program} {W : World} {m : Nat} {t e : TypeId} {a : Option Addr} {l c : Nat} {y : DataW H × List MemPlace}
    (ht : P.underlying t = some (.slice e)) (he : P.underlying e = some (.int .u8)) (hc : P.cellsOf e = 1)
    (h : DataW.trod enc P W 0 (fun _ => true) true m t [.slice a l c] = some y) : l ≤ maxLen ∧ Byts8 W (.slice a l c) l := by
  rcases open_ints ht he hc h with ⟨hcs, _⟩ | ⟨x, l', c', zs, hcs, _, hl, hm, hz, _, hcell, hwf⟩
  · injection hcs with hcs
    injection hcs with h1 h2 h3
    subst h1 h2 h3
    exact ⟨Nat.zero_le _, fun _ => 0, ⟨none, 0, rfl, ⟨Nat.le_refl _, Nat.zero_le _⟩, fun h => absurd h (Nat.lt_irrefl _)⟩, fun j hj => absurd hj (Nat.not_lt_zero _)⟩
  · injection hcs with hcs
    injection hcs with h1 h2 h3
    subst h1 h2 h3
    have hz' : zs.length = c := by simpa using hz
    refine ⟨by omega, fun j => zs.getD j 0, ⟨some x, c, rfl, ⟨hl, hm⟩, fun h0 => ?_⟩, fun j hj => ?_⟩
    · have h0' := hcell 0 (by omega)
      obtain ⟨b, off, spot⟩ := x
      have hs : spot = none := by
        cases spot with
        | none => rfl
        | some s => simp [Addr.add, World.cell?] at h0'; split at h0' <;> simp_all
      subst hs
      refine ⟨b, off, rfl, fun j hj => ?_⟩
      have hadd : (⟨b, off, none⟩ : Addr).add j = ⟨b, off + j, none⟩ := by unfold Addr.add; split <;> simp_all
      rw [← hadd]
      exact hcell j (by omega)
    · have hw := hwf (zs.getD j 0) (getD_mem (by omega))
      simp [Lit.wf, IntKind.wrap] at hw
      rw [show IntKind.u8.min = 0 from by rfl, show IntKind.u8.max = 255 from by rfl] at hw
      simpa [List.getD_eq_getElem?_getD] using hw
end

end Go.Proofs.Ytpfefjdefopccaa

namespace Go.Proofs.Ytpfefjdefopccaa
set_option linter.all false
set_option maxRecDepth 100000
open Go.RowKit

/-- a word as a list of the program -/
def wdL (r : List Nat) : List Int := r.map fun (k : Nat) => (k : Int)
theorem wdL_length (r : List Nat) : (wdL r).length = r.length := by simp [wdL]
theorem wdL_getD {r : List Nat} {j : Nat} (h : j < r.length) : (wdL r).getD j 0 = ((r[j] : Nat) : Int) := by simp [wdL, List.getD_eq_getElem?_getD, h]
theorem isSize_in (n : Nat) (h1 : 1 ≤ n) (h7 : n ≤ 7) (w : World) : Calls Try.prog 43 #[.int .i64 (n : Int)] w fun e w' => e = .returned (.bool true) ∧ w = w' := by
  have e1 : decide ((1 : Int) ≤ n) = true := by simp; omega
  have e2 : decide ((n : Int) ≤ 7) = true := by simp; omega
  have i1 : (1 : Int) ≤ n := by omega
  have i2 : (n : Int) ≤ 7 := by omega
  go_enter Try.func43, Try.ntmps43
  go_wp2_with fail
  go_ret
  exact ⟨rfl, rfl⟩

set_option maxHeartbeats 1000000 in
theorem isWord_in (n : Nat) (r : List Nat) (v : Value) (w : World) (h1 : 1 ≤ n) (h7 : n ≤ 7) (hr : ∀ j ∈ r, j + 1 < n) (hl : r.length ≤ 60) (hv : Ints w v (wdL r)) :
    Calls Try.prog 24 #[.int .i64 (n : Int), v] w fun e w' => e = .returned (.bool true) ∧ w = w' := by
  obtain ⟨p, cap, rfl, ⟨hx1, hx⟩, hxc⟩ := hv
  rw [wdL_length] at hx1 hxc ⊢
  obtain ⟨L, hL⟩ : ∃ L, L = r.length := ⟨_, rfl⟩
  have Hr : Hid (∀ j (h : j < L), ∃ m : Nat, (wdL r).getD j 0 = (m : Int) ∧ m + 1 < n) := Lib.hid fun j hj => ⟨r[j], wdL_getD (by omega), hr _ (List.getElem_mem (by omega))⟩
  rw [← hL] at hx1 hxc hl ⊢
  unfold maxLen at hx
  have Hxc := Lib.hid hxc
  have i2 : ((n : Int) - 2) = ((n : Int) - 2) := rfl
  have hl6 : decide ((L : Int) ≤ 60) = true := by simp; omega
  have hl6' : (L : Int) ≤ 60 := by omega
  clear hr hL hxc i2
  go_enter Try.func24, Try.ntmps24
  go_wp2_with fail
  go_loopg [9] L (fun g i wr => ∃ k : Nat, k ≤ L ∧ g = L - k ∧ i = .int .i64 (k : Int) ∧ wr = w)
  case atStart => exact ⟨0, Nat.zero_le _, rfl, rfl, rfl⟩
  case round =>
    obtain ⟨k, hk, rfl, rfl, rfl⟩ := hrel
    by_cases hlt : k < L
    · have hki : (k : Int) < (L : Int) := by omega
      obtain ⟨b, off, rfl, hc⟩ := Hxc.out (by omega)
      obtain ⟨m, hm, hmn⟩ := Hr.out k hlt
      have c1 := hc k hlt
      unfold iv at c1
      rw [hm] at c1
      have d1 : decide ((m : Int) < 0) = false := by simp
      have d3 : ¬ ((m : Int) < 0) := by omega
      have d2 : decide ((n : Int) - 2 < (m : Int)) = false := by simp; omega
      have d4 : ¬ ((n : Int) - 2 < (m : Int)) := by omega
      clear hc hm
      go_wp2_with fail
      go_roundg (L - (k + 1))
      case measure => omega
      case rel => exact ⟨k + 1, by omega, rfl, by go_num, rfl⟩
    · obtain rfl : k = L := by omega
      go_wp2_with fail
      refine (isSize_in n h1 h7 _).mono ?_
      rintro e w' ⟨rfl, rfl⟩
      go_wp2_with fail
      go_ret
      exact ⟨rfl, rfl⟩

theorem dmz_take {r : List Nat} {u : List Int} {k : Nat} (h : k < r.length) : dmz (r.take (k + 1)) u = upK1 r[k] (dmz (r.take k) u) := by
  rw [List.take_succ_eq_append_getElem h, dmz_snoc]
theorem upK1_p5 {n : Nat} {u : List Int} (h : P5 n u) {k : Nat} (hk : k + 1 < n) : P5 n (upK1 k u) := by
  unfold upK1
  split
  · exact h.sw hk
  · exact h
theorem dmz_p5 {n : Nat} : ∀ (r : List Nat) (u : List Int), P5 n u → (∀ j ∈ r, j + 1 < n) → P5 n (dmz r u)
  | [], _, h, _ => h
  | k :: r, u, h, hr => dmz_p5 r (upK1 k u) (upK1_p5 h (hr k List.mem_cons_self)) fun j hj => hr j (List.mem_cons_of_mem _ hj)

set_option maxHeartbeats 2000000 in
theorem Demazure_any (n : Nat) (r : List Nat) (v : Value) (w : World) (h1 : 1 ≤ n) (h5 : n ≤ 5) (hr : ∀ j ∈ r, j + 1 < n) (hl : r.length ≤ 60) (hv : Ints w v (wdL r)) :
    Calls Try.prog 8 #[.int .i64 (n : Int), v] w (RetI w (dmz r (idL n))) := by
  have Hv := Lib.hid hv
  have Hr := Lib.hid hr
  obtain ⟨p, cap, rfl, ⟨hx1, hx⟩, hxc⟩ := hv
  rw [wdL_length] at hx1 hxc Hv ⊢
  obtain ⟨L, hL⟩ : ∃ L, L = r.length := ⟨_, rfl⟩
  have HL := Lib.hid hL
  have Hg : Hid (∀ j (h : j < L), ∃ m : Nat, (wdL r).getD j 0 = (m : Int) ∧ m + 1 < n ∧ dmz (r.take (j + 1)) (idL n) = upK1 m (dmz (r.take j) (idL n))) := Lib.hid fun j hj => ⟨r[j], wdL_getD (by omega), hr _ (List.getElem_mem (by omega)), dmz_take (by omega)⟩
  have Hp5 : Hid (∀ j, P5 n (dmz (r.take j) (idL n))) := Lib.hid fun j => dmz_p5 _ _ (P5.id h1 h5) fun i hi => hr i (List.mem_of_mem_take hi)
  rw [← hL] at hx1 hxc hl Hv ⊢
  unfold maxLen at hx
  have Hxc := Lib.hid hxc
  clear hr hL hxc
  go_enter Try.func8, Try.ntmps8
  go_wp2_with fail
  refine (isWord_in n r _ _ h1 (by omega) Hr.out (by rw [← HL.out]; exact hl) (by rw [HL.out] at Hv ⊢; exact Hv.out)).mono ?_
  rintro e w0 ⟨rfl, rfl⟩
  go_wp2_with fail
  refine (implIdentity_any n _ h1 (by omega)).mono ?_
  rintro e w1 ⟨u, rfl, ho, hb⟩
  obtain ⟨p1, k1, rfl, _, _⟩ := ho.shape
  have hil := idL_length n
  have Ho := Lib.hid ho
  have Hb := Lib.hid hb
  rw [hil] at Ho ⊢
  clear ho hb hil
  go_wp2_with fail
  go_loopg [5, 16] L (fun g s5 i wr => ∃ k : Nat, k ≤ L ∧ g = L - k ∧ i = .int .i64 (k : Int) ∧ Hid (OwnI 3 wr w.heap.size wr.heap.size s5 (dmz (r.take k) (idL n))) ∧ Hid (Below w.heap.size w wr))
  case atStart => exact ⟨0, Nat.zero_le _, rfl, rfl, Ho.out, Hb.out⟩
  case round =>
    obtain ⟨k, hk, rfl, rfl, hO, hbw⟩ := hrel
    obtain ⟨wo, rfl⟩ : ∃ x : World, x = wr := ⟨_, rfl⟩
    obtain ⟨ps, ks, rfl, _, _⟩ := hO.out.shape
    have hpk := Hp5.out k
    have hlen := hpk.len
    obtain ⟨cur, hcur⟩ : ∃ c, c = dmz (r.take k) (idL n) := ⟨_, rfl⟩
    rw [← hcur] at hO hpk hlen ⊢
    have Hlen := Lib.hid hlen
    have HO := Lib.hid hO.out
    rw [hlen] at HO ⊢
    have Hpk := Lib.hid hpk
    have Hcur := Lib.hid hcur
    clear hO hpk hlen hcur
    by_cases hlt : k < L
    · have hki : (k : Int) < (L : Int) := by omega
      obtain ⟨b, off, rfl, hc⟩ := Hxc.out (by omega)
      obtain ⟨m, hm, hmn, hst⟩ := Hg.out k hlt
      rw [← Hcur.out] at hst
      have Hst := Lib.hid hst
      have c1 := cell_below hbw.out (hc k hlt)
      unfold iv at c1
      rw [hm] at c1
      obtain ⟨_, _, e0, ⟨hk1, hk2⟩, hcc⟩ := HO.out.ints
      have hn0 : 0 < cur.length := by rw [Hlen.out]; omega
      obtain ⟨b1, o1, rfl, hcd⟩ := hcc hn0
      injection e0 with e1 e2 e3
      subst e3 e1
      have d1 := hcd m (by rw [Hlen.out]; omega)
      have d2 := hcd (m + 1) (by rw [Hlen.out]; omega)
      unfold iv at d1 d2
      obtain ⟨x, hx0⟩ : ∃ x, x = cur.getD m 0 := ⟨_, rfl⟩
      obtain ⟨y, hy0⟩ : ∃ y, y = cur.getD (m + 1) 0 := ⟨_, rfl⟩
      rw [← hx0] at d1
      rw [← hy0] at d2
      have Hx := Lib.hid hx0
      have Hy := Lib.hid hy0
      have hwm : IntKind.i64.wrap ((m : Int) + 1) = (m : Int) + 1 := k64 (by omega) (by omega)
      have hm0 : (0 : Int) ≤ (m : Int) + 1 := by omega
      have hmn' : ((m : Int) + 1).toNat = m + 1 := by omega
      have hmi : (m : Int) < (n : Int) := by omega
      have hmi1 : (m : Int) + 1 < (n : Int) := by omega
      rw [Hlen.out] at hk1
      unfold maxLen at hk2
      clear hc hm hst hx0 hy0 hcc hcd e2
      go_wp2_with fail
      go_region
      by_cases hd : x < y
      · have hd2 : decide (x < y) = true := decide_eq_true hd
        have hup : upK1 m cur = swapL cur m (m + 1) := by unfold upK1; rw [if_pos (by unfold ascB; rw [← Hx.out, ← Hy.out]; exact hd2)]; rfl
        have Hup := Lib.hid hup
        have hlc : cur.length ≤ 1000 := by rw [Hlen.out]; omega
        clear hup
        go_wp2_with fail
        refine (exchanged_any _ cur m (m + 1) _ (by have := (HO.out.below (Below.refl _ _).drew).ints; exact this) (by rw [Hlen.out]; omega) (by rw [Hlen.out]; omega) (by omega) hlc).mono ?_
        rintro e w4 ⟨u4, rfl, ho4, hb4⟩
        obtain ⟨p4, k4, rfl, _, _⟩ := ho4.shape
        have hs4 := hbw.out.size
        have Ho4 := Lib.hid (ho4.mono (show w.heap.size ≤ wo.heap.size from hs4) (Nat.le_refl _))
        have Hb4 := Lib.hid (hbw.out.trans ((show Below wo.heap.size wo w4 from below_trans (Below.refl _ _).drew hb4).mono hs4))
        clear ho4 hb4
        go_wp2_with fail
        go_roundg (L - (k + 1))
        case measure => omega
        case rel => exact ⟨k + 1, by omega, rfl, by go_num, by rw [Hst.out, Hup.out]; exact Ho4.out, Hb4.out⟩
      · have hd2 : decide (x < y) = false := decide_eq_false hd
        have hup : upK1 m cur = cur := by unfold upK1; rw [if_neg (by unfold ascB; rw [← Hx.out, ← Hy.out, hd2]; exact Bool.false_ne_true)]
        have Hup := Lib.hid hup
        clear hup
        go_wp2_with fail
        go_roundg (L - (k + 1))
        case measure => omega
        case rel => exact ⟨k + 1, by omega, rfl, by go_num, by rw [Hst.out, Hup.out]; exact HO.out.below (Below.refl _ _).drew, hbw.out.drew⟩
    · obtain rfl : k = L := by omega
      have e : cur = dmz r (idL n) := by rw [Hcur.out, HL.out, List.take_length]
      have E := Lib.hid e
      clear e
      go_wp2_with fail
      go_ret
      exact ⟨_, rfl, by rw [← E.out]; exact HO.out, hbw.out⟩

set_option maxHeartbeats 2000000 in
theorem Compose_any (us vs : List Int) (u v : Value) (w : World) (hu : Ints w u us) (hv : Ints w v vs) (pu : permOk us = true) (pv : permOk vs = true) (hl : us.length = vs.length) :
    Calls Try.prog 9 #[u, v] w (RetI w (cmpL us vs)) := by
  have Hu := Lib.hid hu
  have Hv := Lib.hid hv
  have Pu := Lib.hid pu
  have Pv := Lib.hid pv
  obtain ⟨p, cap, rfl, ⟨hx1, hx⟩, hxc⟩ := hu
  obtain ⟨q, cap2, rfl, ⟨hy1, hy⟩, hyc⟩ := hv
  obtain ⟨v1, v7, hvr, _⟩ := of_decide_eq_true pv
  have Hvr := Lib.hid hvr
  obtain ⟨n, hn⟩ : ∃ n, n = vs.length := ⟨_, rfl⟩
  rw [hl, ← hn] at hx1 hxc Hu ⊢
  rw [← hn] at hy1 hyc Hv Hvr v1 v7
  have Hn := Lib.hid hn
  have Hl := Lib.hid (show us.length = n by omega)
  obtain ⟨b, off, rfl, hxc2⟩ := hxc (by omega)
  obtain ⟨b', off', rfl, hyc2⟩ := hyc (by omega)
  have Hxc := Lib.hid hxc2
  have Hyc := Lib.hid hyc2
  unfold maxLen at hx hy
  clear pu pv hl hn hvr hxc hyc hxc2 hyc2
  go_enter Try.func9, Try.ntmps9
  go_wp2_with fail
  refine (implIsPerm_any _ us _ Hu.out).mono ?_
  rintro e w1 ⟨rfl, hb1⟩
  rw [Pu.out]
  have Hb1 := Lib.hid hb1
  clear hb1
  go_wp2_with fail
  refine (implIsPerm_any _ vs _ (Hv.out.below Hb1.out)).mono ?_
  rintro e w2 ⟨rfl, hb2⟩
  rw [Pv.out]
  have Hb2 := Lib.hid (below_trans Hb1.out hb2)
  have hs2 := Hb2.out.size
  clear hb2
  go_wp2_with fail
  go_loopg [5, 26] n (fun g s5 i wr => ∃ k : Nat, k ≤ n ∧ g = n - k ∧ i = .int .i64 (k : Int) ∧ Hid (OwnI 3 wr w2.heap.size wr.heap.size s5 (cmpL us (vs.take k))) ∧ Hid (Below w2.heap.size w2 wr))
  case atStart => exact ⟨0, Nat.zero_le _, rfl, rfl, OwnF.ints (xs := []) ((OwnF.made0 w2 3 (iv [])).mono (Nat.le_refl _) (by simp)), below_alloc _ _⟩
  case round =>
    obtain ⟨k, hk, rfl, rfl, hO, hbw⟩ := hrel
    obtain ⟨wo, rfl⟩ : ∃ x : World, x = wr := ⟨_, rfl⟩
    obtain ⟨ps, ks, rfl, _, _⟩ := hO.out.shape
    obtain ⟨cur, hcur⟩ : ∃ c, c = cmpL us (vs.take k) := ⟨_, rfl⟩
    rw [← hcur] at hO ⊢
    have hcl : cur.length = k := by rw [hcur, cmpL_length, List.length_take, ← Hn.out]; omega
    have HO := Lib.hid hO.out
    have Hcur := Lib.hid hcur
    rw [hcl] at HO ⊢
    have Hcl := Lib.hid hcl
    clear hO hcur hcl
    by_cases hlt : k < n
    · have hki : (k : Int) < (n : Int) := by omega
      obtain ⟨m, hm, hmn⟩ : ∃ m : Nat, vs.getD k 0 = (m : Int) ∧ m < n := by
        have := Hvr.out _ (getD_mem (show k < vs.length by rw [← Hn.out]; exact hlt))
        exact ⟨(vs.getD k 0).toNat, by omega, by omega⟩
      have hmi : (m : Int) < (n : Int) := by omega
      have c1 := cell_below hbw.out (cell_below Hb2.out (Hyc.out k hlt))
      have c2 := cell_below hbw.out (cell_below Hb2.out (Hxc.out m hmn))
      unfold iv at c1 c2
      rw [hm] at c1
      have hsn : cmpL us (vs.take (k + 1)) = cur ++ [us.getD m 0] := by
        rw [take_snoc vs k (by rw [← Hn.out]; exact hlt), Hcur.out, hm]
        simp [cmpL]
      obtain ⟨x, hx0⟩ : ∃ x, x = us.getD m 0 := ⟨_, rfl⟩
      rw [← hx0] at c2 hsn
      have Hsn := Lib.hid hsn
      have hsb := hbw.out.size
      have Hc1 := Lib.hid (show k + 1 ≤ maxLen by unfold maxLen; omega)
      have Hc2 := Lib.hid (show (k + 1) * 8 ≤ 140737488355328 by omega)
      have hown : OwnF (wo.alloc (.cells #[.int .i64 x] 3)) w2.heap.size wo.heap.size 3 (.slice ps k ks) k (iv cur) := by
        have := (HO.out.below (below_alloc wo (.cells #[.int .i64 x] 3))).fn
        rw [Hcl.out] at this
        exact this
      have Hown := Lib.hid hown
      clear hm hsn hx0 hown
      go_wp2_with (at_builtin; (refine wpList_append_F rfl (.tmp 30) (.tmp 35) 24 rfl 3 (.int .i64 0) 8 Try.underlying24 info_int rfl w2.heap.size wo.heap.size _ k (iv cur) rfl Hown.out (by simp; omega) (by simp) _ 1 _ rfl (rd_one _ _ _ rfl) (fun j _ => rfl) Hc1.out Hc2.out ?_; intro v7 w7 ho7 hg7))
      have ho8 : OwnI 3 w7 w2.heap.size w7.heap.size v7 (cur ++ [x]) := OwnI.snoc1 (by rw [Hcl.out]; exact ho7)
      have hs7 : wo.heap.size + 1 ≤ w7.heap.size := by have := hg7.size; simpa using this
      have Hb7 := Lib.hid (hbw.out.trans (((below_alloc wo _).mono hsb).trans (grownBy_below2 hg7 Hown.out (Nat.le_refl _) (by simp; omega))))
      obtain ⟨p7, k7, rfl, _, _⟩ := ho7.shape
      have Ho8 := Lib.hid ho8
      clear ho8 ho7 hg7
      go_wp2_with fail
      go_roundg (n - (k + 1))
      case measure => omega
      case rel => exact ⟨k + 1, by omega, rfl, by go_num, by rw [Hsn.out]; exact Ho8.out, Hb7.out⟩
    · obtain rfl : k = n := by omega
      have e : cur = cmpL us vs := by rw [Hcur.out, Hn.out, List.take_length]
      have E := Lib.hid e
      clear e
      go_wp2_with fail
      go_ret
      exact ⟨_, rfl, by rw [← E.out]; exact HO.out.mono hs2 (Nat.le_refl _), Hb2.out.trans (hbw.out.mono hs2)⟩

end Go.Proofs.Ytpfefjdefopccaa

namespace Go.Proofs.Ytpfefjdefopccaa
set_option linter.all false
set_option maxRecDepth 100000
open Go.RowKit

theorem rel_ps {P : Int} {n : Nat} {DA DB l : List Int} (ha : IsFl P n n DA) (hb : IsFl P n n DB) (h : RpIs P n n DA P n n DB l) :
    ∃ p, Ps P n (mf n fun t => DA.getD t 0) (mf n fun t => DB.getD t 0) p ∧ l = qL n p := by
  obtain ⟨p, q, r, hr, hp, _⟩ := rel_fun ha.flM hb.flM
  exact ⟨p, ⟨r, hr, hp⟩, rpIs_q h ha hb fun i hi => hr.rpAt ha.flM hb.flM hi (hp i hi).1 (hp i hi).2⟩
theorem rel_p5 {P : Int} {n : Nat} {DA DB l : List Int} (ha : IsFl P n n DA) (hb : IsFl P n n DB) (h : RpIs P n n DA P n n DB l) (h5 : n ≤ 5) : 1 ≤ n ∧ P5 n l := by
  obtain ⟨_, _, e, hn0, hn7, hlA, hDA, hP2, hP7, hpr, hrk⟩ := ha.facts
  obtain ⟨p, hp, rfl⟩ := rel_ps ha hb h
  have h1 : 1 ≤ n := by first | omega | (obtain rfl := Int.ofNat.inj e; omega)
  exact ⟨h1, hp.p5 ha.flM hb.flM h1 h5⟩
/-- the first word that the program finds -/
theorem first_word {n : Nat} {xs : List Int} (h : P5 n xs) : 0 < (allR xs).length ∧ ∃ r, (allR xs).getD 0 [] = wdL r ∧ play r (idL n) = xs ∧ r.length = lnN xs ∧ (∀ j ∈ r, j + 1 < n) ∧ r.length ≤ 10 := by
  have h1 := (cnt_le h).1
  rw [← allR_len] at h1
  refine ⟨h1, ?_⟩
  have hm : (allR xs).getD 0 [] ∈ allR xs := by
    rw [List.getD_eq_getElem?_getD, List.getElem?_eq_getElem h1]
    exact List.getElem_mem h1
  obtain ⟨r, e, h2, h3, h4⟩ := allR_ok h hm
  exact ⟨r, e, h2, h3, h4, by rw [h3]; exact (beg_nil h).2.1⟩
theorem tri_law {P : Int} {n : Nat} {DA DB DC u v w : List Int} (ha : IsFl P n n DA) (hb : IsFl P n n DB) (hc : IsFl P n n DC) (h5 : n ≤ 5) (hu : RpIs P n n DA P n n DB u) (hv : RpIs P n n DB P n n DC v) (hw : RpIs P n n DA P n n DC w)
    {x y : List Nat} (ex : play x (idL n) = u) (lx : x.length = lnN u) (hx : ∀ j ∈ x, j + 1 < n) (ey : play y (idL n) = v) (ly : y.length = lnN v) (hy : ∀ j ∈ y, j + 1 < n) :
    P5 n (cmpL v u) ∧ blwB w (dmz (y ++ x) (idL n)) = true ∧ (lenP (cmpL v u) = lenP u + lenP v → w = cmpL v u) := by
  obtain ⟨h1, pu⟩ := rel_p5 ha hb hu h5
  obtain ⟨_, pv⟩ := rel_p5 hb hc hv h5
  have pc : P5 n (cmpL v u) := by
    rw [← ex, cmpL_play x (idL n) (idL_length n) hx, cmpL_id pv.len]
    exact play_ok x v pv hx
  obtain ⟨p, hp, rfl⟩ := rel_ps ha hb hu
  obtain ⟨q, hq, rfl⟩ := rel_ps hb hc hv
  obtain ⟨s, hs, rfl⟩ := rel_ps ha hc hw
  obtain ⟨a, b⟩ := tri_all ha.flM hb.flM hc.flM h1 h5 hp hq hs hx hy ex lx.symm ey ly.symm
  refine ⟨pc, a, fun e => b ?_⟩
  have e1 := (beg_nil pc).2.2
  have e2 := (beg_nil pu).2.2
  have e3 := (beg_nil pv).2.2
  omega

end Go.Proofs.Ytpfefjdefopccaa
