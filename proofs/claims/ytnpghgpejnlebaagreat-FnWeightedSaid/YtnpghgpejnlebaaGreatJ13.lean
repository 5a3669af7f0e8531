/-
  Go's stable sort of numbers by a closure that may make memory: what its parts leave.
-/
import Derived.Test.YtnpghgpejnlebaaGreatJ12
namespace Go.Proofs.YtnpghgpejnlebaaGreat
set_option linter.all false
open Go.RowKit Go.Shelf Go.Sort Go.Lib

variable {α : Type} [Inhabited α]
theorem swInj {a b : Int} (h : a = b) : Value.int .i64 a = .int .i64 b := by rw [h]

set_option maxHeartbeats 4000000 in
set_option maxRecDepth 1000000 in
theorem swapRange_any (enc : α → Value) (fv : Value) (blk off cap a b n : Nat) (d0 d : Array α) (w0 w : World) (R : Row1 enc w0 blk off d0) (hs : d0.size = d.size) (S : SZ enc w0 blk off d w) (ha : a + n ≤ d.size) (hb : b + n ≤ d.size) (hsz : d.size < 4611686018427387904) :
    Calls Tryz.prog 106 #[.slice (some ⟨blk, off, none⟩) d.size cap, .int .i64 (a : Int), .int .i64 (b : Int), .int .i64 (n : Int), fv] w fun e w' => e = .returned (.tuple #[]) ∧ SZ enc w0 blk off (swR a b n d) w' := by
  have hcl0 := R.hO.cells
  simp only [Value.cells] at hcl0
  have hst := R.hO.store Tryz.prog
  have mixed := Tryz.insI.mixed
  have S0 : Aside (SZ enc w0 blk off d w) := S
  clear S
  go_enter Tryz.func106, Tryz.ntmps106
  go_wp2
  go_loopg [10] n (fun g1 vi wr => ∃ (i : Nat) (dk : Array α), vi = .int .i64 i ∧ i ≤ n ∧ n - i ≤ g1 ∧ dk.size = d.size ∧ Aside (SZ enc w0 blk off dk wr) ∧ Hid (dk = swR a b i d))
  case atStart => exact ⟨0, d, by go_num, by omega, by omega, rfl, S0, rfl⟩
  case round =>
    clear S0
    obtain ⟨i, dk, rfl, hin, hg1, hsk, S1, HD⟩ := hrel
    by_cases hlt : i < n
    · have hltz : (i : Int) < (n : Int) := by omega
      obtain ⟨iN1, hiN1⟩ : ∃ zz, zz = a + i := ⟨_, rfl⟩
      obtain ⟨jN1, hjN1⟩ : ∃ zz, zz = b + i := ⟨_, rfl⟩
      have eaN1 : ((a : Int) + (i : Int)).toNat = iN1 := by omega
      have paN1 : (0 : Int) ≤ (a : Int) + (i : Int) := by omega
      have baN1 : (a : Int) + (i : Int) < (d.size : Int) := by omega
      have raN1 : IntKind.i64.wrap ((a : Int) + (i : Int)) = (a : Int) + (i : Int) := by rw [IntKind.wrap_i64]; omega
      have ecN1 : ((b : Int) + (i : Int)).toNat = jN1 := by omega
      have pcN1 : (0 : Int) ≤ (b : Int) + (i : Int) := by omega
      have bcN1 : (b : Int) + (i : Int) < (d.size : Int) := by omega
      have rcN1 : IntKind.i64.wrap ((b : Int) + (i : Int)) = (b : Int) + (i : Int) := by rw [IntKind.wrap_i64]; omega
      obtain ⟨xN1, hxN1⟩ : ∃ x, x = dk[a + i]! := ⟨_, rfl⟩
      obtain ⟨yN1, hyN1⟩ : ∃ x, x = dk[b + i]! := ⟨_, rfl⟩
      have S2 : Aside (SZ enc w0 blk off (swp dk (a + i) (b + i)) ((wr.setCell ⟨blk, off + iN1, none⟩ (enc yN1)).setCell ⟨blk, off + jN1, none⟩ (enc xN1)).drew) := by rw [hiN1, hjN1, hxN1, hyN1]; exact S1.out.swapped R (a + i) (b + i) (by omega) (by omega)
      have cN1a := S1.out.c1 R (by omega) (a + i) (by omega)
      have cN1b := S1.out.c1 R (by omega) (b + i) (by omega)
      have fN1a := S1.out.f1 R (by omega) (a + i) (by omega)
      have fN1b := S1.out.f1 R (by omega) (b + i) (by omega)
      obtain ⟨uN1, cN1c⟩ := S1.out.c2 R (by omega) (a + i) (b + i) (by omega) (by omega) (enc yN1)
      rw [← hjN1, ← hiN1] at cN1c
      rw [← hxN1, ← hiN1] at cN1a
      rw [← hyN1, ← hjN1] at cN1b
      rw [← hiN1] at fN1a
      rw [← hjN1] at fN1b
      clear S1 hxN1 hyN1 hiN1 hjN1
      go_wp2_with fail
      go_big_region_o
      clear cN1a cN1b cN1c fN1a fN1b
      generalize ((wr.setCell ⟨blk, off + iN1, none⟩ (enc yN1)).setCell ⟨blk, off + jN1, none⟩ (enc xN1)).drew = w2 at S2 ⊢
      clear eaN1 ecN1 paN1 baN1 raN1 pcN1 bcN1 rcN1
      go_wp2
      go_roundg (n - (i + 1))
      case measure => omega
      case rel => exact ⟨i + 1, swp dk (a + i) (b + i), by first | rfl | go_num | (congr 1; omega), by omega, Nat.le_refl _, by rw [size_swp]; exact hsk, S2, (show Hid _ from by rw [HD.out]; exact rfl)⟩
    · have hltz : ¬ (i : Int) < (n : Int) := by omega
      go_wp2
      go_end0
      have hin2 : i = n := by omega
      refine ⟨rfl, ?_⟩
      have := S1.out
      rw [HD.out, hin2] at this
      exact this

set_option maxHeartbeats 4000000 in
set_option maxRecDepth 1000000 in
theorem rotate_any (enc : α → Value) (fv : Value) (blk off cap a m b : Nat) (d0 d : Array α) (w0 w : World) (R : Row1 enc w0 blk off d0) (hs : d0.size = d.size) (S : SZ enc w0 blk off d w) (ham : a < m) (hmb : m < b) (hb : b ≤ d.size) (hsz : d.size < 4611686018427387904) :
    Calls Tryz.prog 95 #[.slice (some ⟨blk, off, none⟩) d.size cap, .int .i64 (a : Int), .int .i64 (m : Int), .int .i64 (b : Int), fv] w fun e w' => e = .returned (.tuple #[]) ∧ SZ enc w0 blk off (rotA m (b - a) (m - a) (b - m) d) w' := by
  obtain ⟨K, hK⟩ : ∃ K, K = rotA m (b - a) (m - a) (b - m) d := ⟨_, rfl⟩
  rw [← hK]
  have HK := Lib.hid hK
  clear hK
  have S0 : Aside (SZ enc w0 blk off d w) := S
  clear S
  have hw1 : IntKind.i64.wrap ((m : Int) - (a : Int)) = ((m - a : Nat) : Int) := by rw [IntKind.wrap_i64]; omega
  have hw2 : IntKind.i64.wrap ((b : Int) - (m : Int)) = ((b - m : Nat) : Int) := by rw [IntKind.wrap_i64]; omega
  have hz1 : (m : Int) - (a : Int) = ((m - a : Nat) : Int) := by omega
  have hz2 : (b : Int) - (m : Int) = ((b - m : Nat) : Int) := by omega
  have Hz1 := Lib.hid hz1
  have Hz2 := Lib.hid hz2
  clear hz1 hz2 hw1 hw2
  go_enter Tryz.func95, Tryz.ntmps95
  go_wp2
  go_loopg [10, 11] (b - a) (fun g1 vi vj wr => ∃ (i j : Nat) (dk : Array α), vi = .int .i64 i ∧ vj = .int .i64 j ∧ 1 ≤ i ∧ 1 ≤ j ∧ i ≤ m - a ∧ j ≤ b - m ∧ i + j ≤ g1 ∧ dk.size = d.size ∧ Aside (SZ enc w0 blk off dk wr) ∧ Hid (rotA m g1 i j dk = K))
  case atStart => exact ⟨m - a, b - m, d, by first | exact swInj Hz1.out | go_num, by first | exact swInj Hz2.out | go_num, by omega, by omega, Nat.le_refl _, Nat.le_refl _, by omega, rfl, S0, HK.out.symm⟩
  case round =>
    clear S0
    obtain ⟨i, j, dk, rfl, rfl, hi1, hj1, him, hjb, hg1, hsk, S1, HD⟩ := hrel
    have hmi : (m : Int) - (i : Int) = ((m - i : Nat) : Int) := by omega
    have Hmi := Lib.hid hmi
    clear hmi
    have Hsk := Lib.hid hsk
    obtain ⟨gg, hgg⟩ : ∃ gg, gk = gg + 1 := ⟨gk - 1, by omega⟩
    by_cases hij : i = j
    · have e0 : ((i : Int) != (j : Int)) = false := by simp [hij]
      have Hij := Lib.hid hij
      clear hij hsk
      go_wp2_with fail
      rw [Hmi.out, ← Hsk.out]
      refine (swapRange_any enc fv blk off cap (m - i) m i d0 dk w0 _ R (by rw [Hsk.out]; exact hs) S1.out (by have := Hsk.out; omega) (by have := Hsk.out; have := Hij.out; omega) (by rw [Hsk.out]; exact hsz)).mono ?_
      rintro e w2 ⟨rfl, hS2⟩
      go_wp2_with fail
      go_end0
      refine ⟨rfl, ?_⟩
      have := HD.out
      rw [hgg, rotA, if_pos Hij.out] at this
      rw [← this]
      exact hS2
    · have e0 : ((i : Int) != (j : Int)) = true := by simp; omega
      by_cases hji : j < i
      · have hjiz : (j : Int) < (i : Int) := by omega
        have Hij := Lib.hid hij
        clear hij hsk
        go_wp2_with fail
        rw [Hmi.out, ← Hsk.out]
        refine (swapRange_any enc fv blk off cap (m - i) m j d0 dk w0 _ R (by rw [Hsk.out]; exact hs) S1.out (by have := Hsk.out; omega) (by have := Hsk.out; omega) (by rw [Hsk.out]; exact hsz)).mono ?_
        rintro e w2 ⟨rfl, hS2⟩
        have S3 : Aside (SZ enc w0 blk off (swR (m - i) m j dk) w2) := hS2
        clear hS2 S1
        rw [Hsk.out]
        go_wp2_with fail
        go_roundg gg
        case measure => omega
        case rel => exact ⟨i - j, j, _, by first | go_num | exact swInj (by omega), rfl, by omega, hj1, by omega, hjb, by omega, by rw [size_swR]; exact Hsk.out, S3, (show Hid _ from by
          have := HD.out
          rw [hgg, rotA, if_neg Hij.out, if_pos hji] at this
          exact this)⟩
      · have hjiz : ¬ (j : Int) < (i : Int) := by omega
        have hmj : (m : Int) + (j : Int) - (i : Int) = ((m + j - i : Nat) : Int) := by omega
        have Hmj := Lib.hid hmj
        have Hij := Lib.hid hij
        clear hij hsk hmj
        go_wp2_with fail
        rw [Hmi.out, Hmj.out, ← Hsk.out]
        refine (swapRange_any enc fv blk off cap (m - i) (m + j - i) i d0 dk w0 _ R (by rw [Hsk.out]; exact hs) S1.out (by have := Hsk.out; omega) (by have := Hsk.out; omega) (by rw [Hsk.out]; exact hsz)).mono ?_
        rintro e w2 ⟨rfl, hS2⟩
        have S3 : Aside (SZ enc w0 blk off (swR (m - i) (m + j - i) i dk) w2) := hS2
        clear hS2 S1
        rw [Hsk.out]
        go_wp2_with fail
        go_roundg gg
        case measure => omega
        case rel => exact ⟨i, j - i, _, rfl, by first | go_num | exact swInj (by have := Hij.out; omega), hi1, by have := Hij.out; omega, him, by omega, by omega, by rw [size_swR]; exact Hsk.out, S3, (show Hid _ from by
          have := HD.out
          rw [hgg, rotA, if_neg Hij.out, if_neg hji] at this
          exact this)⟩


set_option maxHeartbeats 16000000 in
set_option maxRecDepth 1000000 in
theorem insertion_any (enc : α → Value) (cf : α → α → Int) (g : Nat) (cb : Array Value) (blk off cap a b : Nat) (d0 d : Array α) (w0 w : World)
    (eg : ∀ args w, (callFunc g args).run Tryz.prog w = .ok (.enter g args) w) (hcmp : CmpZ Tryz.prog g cb enc cf blk off d0.size w0) (R : Row1 enc w0 blk off d0) (hs : d0.size = d.size) (S : SZ enc w0 blk off d w) (hab : a ≤ b) (hb : b ≤ d.size) (hsz : d.size < 4611686018427387904) :
    Calls Tryz.prog 91 #[.slice (some ⟨blk, off, none⟩) d.size cap, .int .i64 (a : Int), .int .i64 (b : Int), .func (.func g) #[] cb] w fun e w' => e = .returned (.tuple #[]) ∧ SZ enc w0 blk off (Sort.insertionSort (ltOf cf) d a b) w' := by
  have hcl0 := R.hO.cells
  simp only [Value.cells] at hcl0
  have hst := R.hO.store Tryz.prog
  have mixed := Tryz.insI.mixed
  have HC : Aside _ := hcmp
  have S0 : Aside (SZ enc w0 blk off d w) := S
  clear S
  clear hcmp
  go_enter Tryz.func91, Tryz.ntmps91
  go_wp2
  go_loopg [8] (b - a) (fun g1 vi wr => ∃ (i : Nat) (dk : Array α), vi = .int .i64 i ∧ a < i ∧ i ≤ b + 1 ∧ b + 1 - i ≤ g1 + 1 ∧ dk.size = d.size ∧ Aside (SZ enc w0 blk off dk wr) ∧ Hid (insOuter (ltOf cf) a b i dk = insOuter (ltOf cf) a b (a + 1) d))
  case atStart => exact ⟨a + 1, d, by go_num, by omega, by omega, by omega, rfl, S0, rfl⟩
  case round =>
    clear S0
    obtain ⟨i, dk, rfl, hai, hib, hg1, hsk, S1, HO⟩ := hrel
    by_cases hlt : i < b
    · have hltz : (i : Int) < (b : Int) := by omega
      go_wp2
      go_loopg [9] i (fun g2 vj wr2 => ∃ (j : Nat) (dj : Array α), vj = .int .i64 j ∧ a ≤ j ∧ j ≤ i ∧ j ≤ g2 ∧ dj.size = d.size ∧ Aside (SZ enc w0 blk off dj wr2) ∧ Hid (insInner (ltOf cf) a j dj = insInner (ltOf cf) a i dk))
      case atStart => exact ⟨i, dk, rfl, by omega, Nat.le_refl _, Nat.le_refl _, hsk, S1, rfl⟩
      case round =>
        clear S1
        obtain ⟨j, dj, rfl, haj, hji, hg2, hsj, SJ, HI⟩ := hrel
        have out : (j ≤ a ∨ (ltOf cf) dj[j]! dj[j - 1]! = false) → Hid (insOuter (ltOf cf) a b (i + 1) dj = insOuter (ltOf cf) a b (a + 1) d) := fun hs => by
          show _ = _
          rw [← HO.out, insOuter_go _ _ _ _ _ hlt, ← HI.out, insInner_stop _ _ _ _ hs]
        have OUT : Aside _ := out
        clear out
        by_cases hja : a < j
        · have hjaz : (a : Int) < (j : Int) := by omega
          obtain ⟨jp, hjp⟩ : ∃ q, q + 1 = j := ⟨j - 1, by omega⟩
          have zjp : (j : Int) = (jp : Int) + 1 := by omega
          have hjad : decide ((jp : Int) + 1 > (a : Int)) = true := decide_eq_true (by omega)
          have hjaz' : (a : Int) < (jp : Int) + 1 := by omega
          cases hlv : (ltOf cf) dj[j]! dj[j - 1]! with
          | true =>
            obtain ⟨iN2, hiN2⟩ : ∃ zz, zz = j := ⟨_, rfl⟩
            obtain ⟨jN2, hjN2⟩ : ∃ zz, zz = j - 1 := ⟨_, rfl⟩
            have eaN2 : ((jp : Int) + 1).toNat = iN2 := by omega
            have paN2 : (0 : Int) ≤ (jp : Int) + 1 := by omega
            have baN2 : (jp : Int) + 1 < (d.size : Int) := by omega
            have raN2 : IntKind.i64.wrap ((jp : Int) + 1) = (jp : Int) + 1 := by rw [IntKind.wrap_i64]; omega
            have ecN2 : ((jp : Int)).toNat = jN2 := by omega
            have pcN2 : (0 : Int) ≤ (jp : Int) := by omega
            have bcN2 : (jp : Int) < (d.size : Int) := by omega
            have rcN2 : IntKind.i64.wrap ((jp : Int)) = (jp : Int) := by rw [IntKind.wrap_i64]; omega
            obtain ⟨xN2, hxN2⟩ : ∃ x, x = dj[j]! := ⟨_, rfl⟩
            obtain ⟨yN2, hyN2⟩ : ∃ x, x = dj[j - 1]! := ⟨_, rfl⟩
            have lN2a := SJ.out.cl R (by omega) (j) (by omega)
            have lN2b := SJ.out.cl R (by omega) (j - 1) (by omega)
            rw [← hxN2, ← hiN2] at lN2a
            rw [← hyN2, ← hjN2] at lN2b
            have hcN2 := SJ.out.cmp HC.out (by omega) xN2 yN2
            have hvN2 : cf xN2 yN2 < 0 := by rw [hxN2, hyN2]; exact of_decide_eq_true hlv
            have hdN2 : decide (cf xN2 yN2 < 0) = true := decide_eq_true hvN2
            clear hxN2 hyN2 hiN2 hjN2
            go_wp2_with fail
            refine wp_region_quiet_z (by assumption) (by kernel_rfl) ?_
            repeat (quiet_step (first | (go_at_fn g; refine grown_z (hcN2 _ _))))
            refine wpQuiet_nil ?_
            intro _ hw'
            obtain ⟨⟨nq, osq⟩, hw''⟩ := hw'
            subst hw''
            have S2 : Aside (SZ enc w0 blk off dj (grow (atd wr nq) osq)) := SJ.out.grown nq osq
            clear lN2a lN2b hcN2 SJ
            generalize grow (atd wr nq) osq = w2 at S2 ⊢
            clear nq osq
            clear eaN2 ecN2 paN2 baN2 raN2 pcN2 bcN2 rcN2
            go_wp2_with fail
            obtain ⟨iN3, hiN3⟩ : ∃ zz, zz = j := ⟨_, rfl⟩
            obtain ⟨jN3, hjN3⟩ : ∃ zz, zz = j - 1 := ⟨_, rfl⟩
            have eaN3 : ((jp : Int) + 1).toNat = iN3 := by omega
            have paN3 : (0 : Int) ≤ (jp : Int) + 1 := by omega
            have baN3 : (jp : Int) + 1 < (d.size : Int) := by omega
            have raN3 : IntKind.i64.wrap ((jp : Int) + 1) = (jp : Int) + 1 := by rw [IntKind.wrap_i64]; omega
            have ecN3 : ((jp : Int)).toNat = jN3 := by omega
            have pcN3 : (0 : Int) ≤ (jp : Int) := by omega
            have bcN3 : (jp : Int) < (d.size : Int) := by omega
            have rcN3 : IntKind.i64.wrap ((jp : Int)) = (jp : Int) := by rw [IntKind.wrap_i64]; omega
            obtain ⟨xN3, hxN3⟩ : ∃ x, x = dj[j]! := ⟨_, rfl⟩
            obtain ⟨yN3, hyN3⟩ : ∃ x, x = dj[j - 1]! := ⟨_, rfl⟩
            have S3 : Aside (SZ enc w0 blk off (swp dj (j) (j - 1)) ((w2.setCell ⟨blk, off + iN3, none⟩ (enc yN3)).setCell ⟨blk, off + jN3, none⟩ (enc xN3)).drew) := by rw [hiN3, hjN3, hxN3, hyN3]; exact S2.out.swapped R (j) (j - 1) (by omega) (by omega)
            have cN3a := S2.out.c1 R (by omega) (j) (by omega)
            have cN3b := S2.out.c1 R (by omega) (j - 1) (by omega)
            have fN3a := S2.out.f1 R (by omega) (j) (by omega)
            have fN3b := S2.out.f1 R (by omega) (j - 1) (by omega)
            obtain ⟨uN3, cN3c⟩ := S2.out.c2 R (by omega) (j) (j - 1) (by omega) (by omega) (enc yN3)
            rw [← hjN3, ← hiN3] at cN3c
            rw [← hxN3, ← hiN3] at cN3a
            rw [← hyN3, ← hjN3] at cN3b
            rw [← hiN3] at fN3a
            rw [← hjN3] at fN3b
            clear S2 hxN3 hyN3 hiN3 hjN3
            go_wp2_with fail
            go_big_region_o
            clear cN3a cN3b cN3c fN3a fN3b
            generalize ((w2.setCell ⟨blk, off + iN3, none⟩ (enc yN3)).setCell ⟨blk, off + jN3, none⟩ (enc xN3)).drew = w3 at S3 ⊢
            clear eaN3 ecN3 paN3 baN3 raN3 pcN3 bcN3 rcN3
            go_wp2
            go_roundg (j - 1)
            case measure => omega
            case rel => exact ⟨j - 1, swp dj j (j - 1), by first | rfl | go_num | (congr 1; omega), by omega, by omega, Nat.le_refl _, by rw [size_swp]; exact hsj, S3, (show Hid _ from by rw [← HI.out, insInner_go (ltOf cf) a j dj hja hlv]; exact rfl)⟩
          | false =>
            obtain ⟨iN4, hiN4⟩ : ∃ zz, zz = j := ⟨_, rfl⟩
            obtain ⟨jN4, hjN4⟩ : ∃ zz, zz = j - 1 := ⟨_, rfl⟩
            have eaN4 : ((jp : Int) + 1).toNat = iN4 := by omega
            have paN4 : (0 : Int) ≤ (jp : Int) + 1 := by omega
            have baN4 : (jp : Int) + 1 < (d.size : Int) := by omega
            have raN4 : IntKind.i64.wrap ((jp : Int) + 1) = (jp : Int) + 1 := by rw [IntKind.wrap_i64]; omega
            have ecN4 : ((jp : Int)).toNat = jN4 := by omega
            have pcN4 : (0 : Int) ≤ (jp : Int) := by omega
            have bcN4 : (jp : Int) < (d.size : Int) := by omega
            have rcN4 : IntKind.i64.wrap ((jp : Int)) = (jp : Int) := by rw [IntKind.wrap_i64]; omega
            obtain ⟨xN4, hxN4⟩ : ∃ x, x = dj[j]! := ⟨_, rfl⟩
            obtain ⟨yN4, hyN4⟩ : ∃ x, x = dj[j - 1]! := ⟨_, rfl⟩
            have lN4a := SJ.out.cl R (by omega) (j) (by omega)
            have lN4b := SJ.out.cl R (by omega) (j - 1) (by omega)
            rw [← hxN4, ← hiN4] at lN4a
            rw [← hyN4, ← hjN4] at lN4b
            have hcN4 := SJ.out.cmp HC.out (by omega) xN4 yN4
            have hvN4 : ¬ cf xN4 yN4 < 0 := by rw [hxN4, hyN4]; exact of_decide_eq_false hlv
            have hdN4 : decide (cf xN4 yN4 < 0) = false := decide_eq_false hvN4
            clear hxN4 hyN4 hiN4 hjN4
            go_wp2_with fail
            refine wp_region_quiet_z (by assumption) (by kernel_rfl) ?_
            repeat (quiet_step (first | (go_at_fn g; refine grown_z (hcN4 _ _))))
            refine wpQuiet_nil ?_
            intro _ hw'
            obtain ⟨⟨nq, osq⟩, hw''⟩ := hw'
            subst hw''
            have S2 : Aside (SZ enc w0 blk off dj (grow (atd wr nq) osq)) := SJ.out.grown nq osq
            clear lN4a lN4b hcN4 SJ
            generalize grow (atd wr nq) osq = w2 at S2 ⊢
            clear nq osq
            clear eaN4 ecN4 paN4 baN4 raN4 pcN4 bcN4 rcN4
            go_wp2_with fail
            go_roundg (b - (i + 1))
            case measure => omega
            case rel => exact ⟨i + 1, dj, by go_num, by omega, by omega, by omega, hsj, S2, OUT.out (Or.inr hlv)⟩
        · have hjaz : decide ((j : Int) > (a : Int)) = false := decide_eq_false (by omega)
          have hjaz' : ¬ (a : Int) < (j : Int) := by omega
          go_wp2_with fail
          go_big_region_o
          have S2 : Aside (SZ enc w0 blk off dj wr.drew) := SJ.out.drew
          clear SJ
          generalize wr.drew = w2 at S2 ⊢
          go_wp2
          go_roundg (b - (i + 1))
          case measure => omega
          case rel => exact ⟨i + 1, dj, by go_num, by omega, by omega, by omega, hsj, S2, OUT.out (Or.inl (by omega))⟩
    · have hltz : ¬ (i : Int) < (b : Int) := by omega
      go_wp2
      go_end0
      exact ⟨rfl, by unfold Sort.insertionSort; rw [← HO.out, insOuter_stop _ _ _ _ _ hlt]; exact S1.out⟩

end Go.Proofs.YtnpghgpejnlebaaGreat
