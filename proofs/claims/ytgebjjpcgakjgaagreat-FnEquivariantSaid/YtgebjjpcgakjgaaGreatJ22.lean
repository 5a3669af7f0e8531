/-
  Go's stable sort of numbers by a closure that may make memory: the whole, for fewer than twenty and for 24.
  The order in which values are taken apart: numbers from 0 on, sorted by the lengths of permutations.
  The order in which values are taken apart: numbers from 0 on, sorted by the lengths of permutations.
  The search among lists of numbers that stand in their order: slices.BinarySearchFunc by slices.Compare.
  IsGkm of the program.
-/
import Derived.Test.YtgebjjpcgakjgaaGreatJ21
import Derived.Test.YtgebjjpcgakjgaaGreatJ9
import Derived.Test.YtgebjjpcgakjgaaGreatJ19
import Derived.Test.YtgebjjpcgakjgaaGreatJ20
import Derived.Test.YtgebjjpcgakjgaaGreatJ5
import Derived.Test.YtgebjjpcgakjgaaGreatJ4
import Derived.Test.YtgebjjpcgakjgaaGreatJ10
namespace Go.Proofs.YtgebjjpcgakjgaaGreat
set_option linter.all false
open Go.RowKit Go.Shelf Go.Sort Go.Lib

variable {α : Type} [Inhabited α]
theorem size_insN (lt : α → α → Bool) (a : Nat) : ∀ (j : Nat) (d : Array α), (insInner lt a j d).size = d.size
  | 0, _ => rfl
  | j + 1, d => by
    rw [insInner]
    split
    · rw [size_insN lt a j, size_swp]
    · rfl
theorem size_insS (lt : α → α → Bool) (a b : Nat) : ∀ (f i : Nat) (d : Array α), (insS lt a b f i d).size = d.size
  | 0, _, _ => rfl
  | f + 1, i, d => by
    rw [insS]
    split
    · rw [size_insS lt a b f, size_insN]
    · rfl
theorem size_inso (lt : α → α → Bool) (d : Array α) (a b : Nat) : (insertionSort lt d a b).size = d.size := by
  unfold insertionSort
  rw [insS_eq lt a b _ _ _ (Nat.le_refl _), size_insS]
theorem stbA_eq (lt : α → α → Bool) (d : Array α) (h : d.size < 20 ∨ d.size = 24) : stbA lt d = stbS lt d := by
  unfold stbA stbS insertionSort
  rcases h with h | h
  · rw [if_pos h, if_pos h, insS_eq lt 0 d.size d.size 1 d (by omega)]
  · rw [if_neg (by omega), if_neg (by omega), insS_eq lt 0 20 20 1 d (by omega), insS_eq lt 20 d.size d.size 21 _ (by omega)]

set_option maxHeartbeats 16000000 in
set_option maxRecDepth 1000000 in
theorem stable_any (enc : α → Value) (cf : α → α → Int) (g : Nat) (cb : Array Value) (blk off cap : Nat) (d0 d : Array α) (w0 w : World)
    (eg : ∀ args w, (callFunc g args).run Tryz.prog w = .ok (.enter g args) w) (hcmp : CmpZ Tryz.prog g cb enc cf blk off d0.size w0) (R : Row1 enc w0 blk off d0) (hs : d0.size = d.size) (S : SZ enc w0 blk off d w) (h24 : d.size < 20 ∨ d.size = 24) :
    Calls Tryz.prog 63 #[.slice (some ⟨blk, off, none⟩) d.size cap, .int .i64 (d.size : Int), .func (.func g) #[] cb] w fun e w' => e = .returned (.tuple #[]) ∧ SZ enc w0 blk off (stbA (ltOf cf) d) w' := by
  have HC : Aside _ := hcmp
  have S0 : Aside (SZ enc w0 blk off d w) := S
  clear S
  clear hcmp
  have Eg := Lib.hid eg
  clear eg
  rcases h24 with h24 | h24
  · go_enter Tryz.func63, Tryz.ntmps63
    have hz1 : ¬ (20 : Int) ≤ (d.size : Int) := by omega
    have hz2 : ¬ (20 : Int) < (d.size : Int) := by omega
    go_wp2_with fail
    go_loopg [7, 8] 0 (fun gg s7 s8 wr => s7 = .int .i64 0 ∧ s8 = .int .i64 20 ∧ Aside (SZ enc w0 blk off d wr))
    case atStart => exact ⟨rfl, rfl, S0⟩
    case round =>
      clear S0
      obtain ⟨rfl, rfl, S1⟩ := hrel
      go_wp2_with fail
      refine (insertion_any enc cf g cb blk off cap 0 d.size d0 d w0 _ Eg.out HC.out R hs S1.out (by omega) (by omega) (by omega)).mono ?_
      rintro e w2 ⟨rfl, hq⟩
      have S2 : Aside (SZ enc w0 blk off (insertionSort (ltOf cf) d 0 d.size) w2) := hq
      clear hq S1
      go_wp2_with fail
      go_loopg [6] 0 (fun gg s6 wr => s6 = .int .i64 20 ∧ Aside (SZ enc w0 blk off (insertionSort (ltOf cf) d 0 d.size) wr))
      case atStart => exact ⟨rfl, S2⟩
      case round =>
        clear S2
        obtain ⟨rfl, S3⟩ := hrel
        go_wp2_with fail
        go_end0
        refine ⟨rfl, ?_⟩
        unfold stbA
        rw [if_pos h24]
        exact S3.out
  · rw [show (d.size : Int) = 24 by omega]
    go_enter Tryz.func63, Tryz.ntmps63
    obtain ⟨d1, hd1⟩ : ∃ d1, d1 = insertionSort (ltOf cf) d 0 20 := ⟨_, rfl⟩
    obtain ⟨d2, hd2⟩ : ∃ d2, d2 = insertionSort (ltOf cf) d1 20 24 := ⟨_, rfl⟩
    have s1 : d1.size = d.size := by rw [hd1, size_inso]
    have s2 : d2.size = d.size := by rw [hd2, size_inso, s1]
    have Hd1 := Lib.hid hd1
    have Hd2 := Lib.hid hd2
    have Hs1 := Lib.hid s1
    have Hs2 := Lib.hid s2
    have Hs := Lib.hid hs
    have H24 := Lib.hid h24
    clear hd1 hd2 s1 s2 hs h24
    go_wp2_with fail
    go_loopg [7, 8] 1 (fun gg s7 s8 wr => (gg = 1 ∧ s7 = .int .i64 0 ∧ s8 = .int .i64 20 ∧ Aside (SZ enc w0 blk off d wr)) ∨ (gg = 0 ∧ s7 = .int .i64 20 ∧ s8 = .int .i64 40 ∧ Aside (SZ enc w0 blk off d1 wr)))
    case atStart => exact .inl ⟨rfl, rfl, rfl, S0⟩
    case round =>
      clear S0
      rcases hrel with ⟨rfl, rfl, rfl, S1⟩ | ⟨rfl, rfl, rfl, S1⟩
      · go_wp2_with fail
        refine (insertion_any enc cf g cb blk off cap 0 20 d0 d w0 _ Eg.out HC.out R Hs.out S1.out (by omega) (by have := H24.out; omega) (by have := H24.out; omega)).mono ?_
        rintro e w2 ⟨rfl, hq⟩
        have S2 : Aside (SZ enc w0 blk off d1 w2) := by rw [Hd1.out]; exact hq
        clear hq S1
        go_wp2_with fail
        go_roundg 0
        case measure => omega
        case rel => exact .inr ⟨rfl, rfl, rfl, S2⟩
      · go_wp2_with fail
        have hi := insertion_any enc cf g cb blk off cap 20 24 d0 d1 w0 wr Eg.out HC.out R (Hs.out.trans Hs1.out.symm) S1.out (by omega) (by rw [Hs1.out, H24.out]; exact Nat.le_refl _) (by rw [Hs1.out, H24.out]; decide)
        rw [Hs1.out] at hi
        refine hi.mono ?_
        clear hi
        rintro e w2 ⟨rfl, hq⟩
        have S2 : Aside (SZ enc w0 blk off d2 w2) := by rw [Hd2.out]; exact hq
        clear hq S1
        go_wp2_with fail
        go_loopg [6, 7, 8, 9] 1 (fun gg s6 s7 s8 s9 wr => (gg = 1 ∧ s6 = .int .i64 20 ∧ Aside (SZ enc w0 blk off d2 wr)) ∨ (gg = 0 ∧ s6 = .int .i64 40 ∧ Aside (SZ enc w0 blk off (symA (ltOf cf) 24 0 20 24 d2) wr)))
        case atStart => exact .inl ⟨rfl, rfl, S2⟩
        case round =>
          clear S2
          rcases hrel with ⟨rfl, rfl, S3⟩ | ⟨rfl, rfl, S3⟩
          · go_wp2_with fail
            go_loopg [7, 8] 0 (fun gg s7 s8 wr => s7 = .int .i64 0 ∧ s8 = .int .i64 40 ∧ Aside (SZ enc w0 blk off d2 wr))
            case atStart => exact ⟨rfl, rfl, S3⟩
            case round =>
              clear S3
              obtain ⟨rfl, rfl, S4⟩ := hrel
              go_wp2_with fail
              have hi := symMerge_any enc cf g cb blk off cap d0 w0 Eg.out HC.out R 24 0 20 24 d2 wr (Hs.out.trans Hs2.out.symm) S4.out (by omega) (by omega) (by rw [Hs2.out, H24.out]; exact Nat.le_refl _) (by omega) (by rw [Hs2.out, H24.out]; decide)
              rw [Hs2.out] at hi
              refine hi.mono ?_
              clear hi
              rintro e w5 ⟨rfl, hq⟩
              have S5 : Aside (SZ enc w0 blk off (symA (ltOf cf) 24 0 20 24 d2) w5) := hq
              clear hq S4
              go_wp2_with fail
              go_roundg 0
              case measure => omega
              case rel => exact .inr ⟨rfl, rfl, S5⟩
          · go_wp2_with fail
            go_end0
            refine ⟨rfl, ?_⟩
            unfold stbA
            rw [if_neg (by rw [H24.out]; decide), H24.out, ← Hd1.out, ← Hd2.out]
            exact S3.out

set_option maxHeartbeats 4000000 in
set_option maxRecDepth 1000000 in
theorem sortStable_any (enc : α → Value) (cf : α → α → Int) (g : Nat) (cb : Array Value) (blk off cap : Nat) (d : Array α) (w : World)
    (eg : ∀ args w, (callFunc g args).run Tryz.prog w = .ok (.enter g args) w) (hcmp : CmpZ Tryz.prog g cb enc cf blk off d.size w) (R : Row1 enc w blk off d) (h24 : d.size < 20 ∨ d.size = 24) :
    Calls Tryz.prog 41 #[.slice (some ⟨blk, off, none⟩) d.size cap, .func (.func g) #[] cb] w fun e w' => e = .returned (.tuple #[]) ∧ SZ enc w blk off (stbS (ltOf cf) d) w' := by
  have Hi := Lib.hid (stable_any enc cf g cb blk off cap d d w w eg hcmp R rfl (SZ.start R.hH) h24)
  clear hcmp R
  go_enter Tryz.func41, Tryz.ntmps41
  have H24 := Lib.hid h24
  clear h24
  go_wp2_with fail
  refine Hi.out.mono ?_
  rintro e w2 ⟨rfl, hq⟩
  rw [stbA_eq _ _ H24.out] at hq
  have S2 : Aside _ := hq
  clear hq
  go_wp2_with fail
  go_end0
  exact ⟨rfl, S2.out⟩

end Go.Proofs.YtgebjjpcgakjgaaGreat

namespace Go.Proofs.YtgebjjpcgakjgaaGreat
set_option linter.all false
open Go.RowKit Go.Sort

set_option maxRecDepth 1000000 in
set_option maxHeartbeats 4000000 in
/-- the closure: which of two permutations is longer -/
theorem cmpLen_any (bx : Nat) (v : Value) (rows : List (List Int)) (x y : Nat) (w : World) (hb : w.cell? ⟨bx, 0, none⟩ = some v) (h : RdII w v rows) (hx : x < rows.length) (hy : y < rows.length)
    (hp : ∀ i, i < rows.length → permOk (rows.getD i []) = true) (hl : rows.length ≤ 1000) :
    Calls Tryz.prog 42 #[.int .i64 (x : Int), .int .i64 (y : Int), .pointer (some ⟨bx, 0, none⟩)] w fun e w' =>
      e = .returned (.int .i64 ((lenP (rows.getD x []) : Int) - (lenP (rows.getD y []) : Int))) ∧ Below w.heap.size w w' := by
  obtain ⟨f, ⟨p, cap, rfl, ⟨hx1, hx2⟩, hxc⟩, hf⟩ := h
  unfold maxLen at hx2
  obtain ⟨b, off, rfl, hc⟩ := hxc (by omega)
  have mixed := Tryz.insI.mixed
  obtain ⟨N, hN⟩ : ∃ N, N = rows.length := ⟨_, rfl⟩
  rw [← hN] at hx hy hx1 hc hf hp hl hb
  obtain ⟨A, hA⟩ : ∃ A, A = lenP (rows.getD x []) := ⟨_, rfl⟩
  obtain ⟨B, hB⟩ : ∃ B, B = lenP (rows.getD y []) := ⟨_, rfl⟩
  have hA7 : A ≤ 49 := by
    have h7 := of_decide_eq_true (hp x hx)
    rw [hA]
    have := lenTo_le (rows.getD x []) (rows.getD x []).length
    have := Nat.mul_le_mul h7.2.1 h7.2.1
    unfold lenP
    omega
  have hB7 : B ≤ 49 := by
    have h7 := of_decide_eq_true (hp y hy)
    rw [hB]
    have := lenTo_le (rows.getD y []) (rows.getD y []).length
    have := Nat.mul_le_mul h7.2.1 h7.2.1
    unfold lenP
    omega
  have gb : ∀ n os, Below w.heap.size w (grow (atd w n) os) := fun n os => ⟨rfl, rfl, rfl, by rw [size_grow]; exact Nat.le_add_right _ _, fun k hk => heap_grow_old _ _ (by exact hk)⟩
  have c0 : ∀ n os, (grow (atd w n) os).cell? ⟨bx, 0, none⟩ = some (.slice (some ⟨b, off, none⟩) N cap) := fun n os => cell_below (gb n os) hb
  obtain ⟨fx, hfx⟩ : ∃ z, z = f x := ⟨_, rfl⟩
  obtain ⟨fy, hfy⟩ : ∃ z, z = f y := ⟨_, rfl⟩
  have c1 : ∀ n os, (grow (atd w n) os).cell? ⟨b, off + x, none⟩ = some fx := fun n os => cell_below (gb n os) (by rw [hfx]; exact hc x hx)
  have c2 : ∀ n os, (grow (atd w n) os).cell? ⟨b, off + y, none⟩ = some fy := fun n os => cell_below (gb n os) (by rw [hfy]; exact hc y hy)
  have q1 : ∀ n os, Calls Tryz.prog 10 #[fx] (grow (atd w n) os) fun e w' => e = .returned (.int .i64 (A : Int)) ∧ ∃ q os', w' = grow (atd (grow (atd w n) os) q) os' := fun n os =>
    (implLength_any fx (rows.getD x []) _ (by rw [hfx]; exact (hf x hx).below (gb n os)) (hp x hx)).mono fun e w' ⟨he, hw⟩ => ⟨by rw [he, hA], below_grow hw⟩
  have q2 : ∀ n os, Calls Tryz.prog 10 #[fy] (grow (atd w n) os) fun e w' => e = .returned (.int .i64 (B : Int)) ∧ ∃ q os', w' = grow (atd (grow (atd w n) os) q) os' := fun n os =>
    (implLength_any fy (rows.getD y []) _ (by rw [hfy]; exact (hf y hy).below (gb n os)) (hp y hy)).mono fun e w' ⟨he, hw⟩ => ⟨by rw [he, hB], below_grow hw⟩
  have hxi : (x : Int) < (N : Int) := by omega
  have hyi : (y : Int) < (N : Int) := by omega
  have Gb := Lib.hid gb
  have hw1 : IntKind.i64.wrap ((A : Int) - (B : Int)) = (A : Int) - (B : Int) := by rw [IntKind.wrap_i64]; omega
  rw [← hA, ← hB]
  clear hxc hc hf hp hN hA hB hfx hfy gb hb
  go_enter Tryz.func42, Tryz.ntmps42
  go_wp2_with fail
  refine wp_region_quiet_z (by assumption) (by kernel_rfl) ?_
  repeat (quiet_step (first | (with_reducible refine grown_z (q1 _ _)) | (with_reducible refine grown_z (q2 _ _))))
  refine wpQuiet_nil ?_
  intro _ hw'
  obtain ⟨⟨nq, osq⟩, hw''⟩ := hw'
  subst hw''
  go_wp2_with fail
  go_ret
  exact ⟨rfl, Gb.out _ _⟩

end Go.Proofs.YtgebjjpcgakjgaaGreat

namespace Go.Proofs.YtgebjjpcgakjgaaGreat
set_option linter.all false
open Go.RowKit Go.Sort

/-! ### the numbers from 0 on -/
set_option maxRecDepth 100000 in
set_option maxHeartbeats 2000000 in
theorem upTo_any (n : Nat) (w : World) (hn : n ≤ 1000) : Calls Tryz.prog 40 #[.int .i64 (n : Int)] w (RetI w (idL n)) := by
  have hnn := Lib.hid hn
  have hn2 : (n : Int) ≤ 1000 := by omega
  go_enter Tryz.func40, Tryz.ntmps40
  go_wp2_with fail
  go_loopg [3, 4, 7] n (fun g s3 s4 s7 wr => ∃ i : Nat, i ≤ n ∧ g = n - i ∧ s7 = .int .i64 i ∧ Hid (Below w.heap.size w wr) ∧ Hid (OwnI 3 wr w.heap.size wr.heap.size s3 (idL i)))
  case atStart =>
    refine ⟨0, Nat.zero_le _, rfl, rfl, below_alloc w _, ?_⟩
    exact OwnF.ints ((OwnF.made0 w 3 (iv [])).mono (Nat.le_refl _) (by simp))
  case round =>
    obtain ⟨i, hi, rfl, rfl, hb, ho⟩ := hrel
    have hsr := hb.out.size
    by_cases hlt : i < n
    · have hlt2 : (i : Int) < (n : Int) := by omega
      obtain ⟨p5, k5, rfl, _, _⟩ := ho.out.shape
      have hofn := ho.out.fn
      rw [idL_length] at hofn ⊢
      have Ho := Lib.hid hofn
      have Hb := Lib.hid hb.out
      have Hb1 := Lib.hid (show i + 1 ≤ maxLen by unfold maxLen; omega)
      have Hb2 := Lib.hid (show (i + 1) * 8 ≤ 140737488355328 by omega)
      clear ho hofn hb
      go_wp2_with (at_builtin; go_must (refine wpList_append_F rfl (.tmp 10) (.tmp 12) 24 rfl 3 (.int .i64 0) 8 Tryz.underlying24 info_int rfl w.heap.size wr.heap.size _ i (iv (idL i)) rfl (Ho.out.below (below_alloc wr _)) (by rw [size_alloc]; omega) (by rw [size_alloc]; omega) _ 1 _ rfl (rd_one _ _ _ rfl) (fun j _ => rfl) Hb1.out Hb2.out ?_; intro v2 w2 ho2 hg2))
      go_roundg (n - (i + 1))
      case measure => omega
      case rel =>
        have hbx : Below w.heap.size wr w2 := ((below_alloc wr _).mono (by omega)).trans (grownBy_below hg2 Ho.out.blocks (Nat.le_refl _) (by rw [size_alloc]; omega))
        refine ⟨i + 1, by omega, rfl, by go_num, Hb.out.trans hbx, ?_⟩
        rw [idL_succ]
        exact OwnI.snoc1 (by rw [idL_length]; exact ho2)
    · obtain rfl : i = n := by omega
      have hlt2 : ¬ (i : Int) < (i : Int) := by omega
      have Ho := Lib.hid ho.out
      have Hb := Lib.hid hb.out
      clear ho hb
      go_wp2_with fail
      go_ret
      exact ⟨_, rfl, Ho.out, Hb.out⟩

/-! ### the order -/
def lenAt (n x : Nat) : Nat := lnN ((permsL n).getD (x % fact n) [])
def cmpN (n x y : Nat) : Int := (lenAt n x : Int) - (lenAt n y : Int)
def encN (n x : Nat) : Value := .int .i64 ((x % fact n : Nat) : Int)
/-- permutations by their lengths, those of one length as they stand -/
def ordL (n : Nat) : List Nat := (List.range (n * (n - 1) / 2 + 1)).flatMap fun s => (List.range (fact n)).filter fun x => decide (lnN ((permsL n).getD x []) = s)
def ordB (n : Nat) : Bool := decide ((stbS (ltOf (cmpN n)) (Array.range (fact n))).toList = ordL n) && (ordL n).isPerm (List.range (fact n)) && decide ((ordL n).Pairwise fun x y => lnN ((permsL n).getD x []) ≤ lnN ((permsL n).getD y []))
  && (permsL n).all fun v => decide (lenP v = lnN v)
set_option maxRecDepth 1000000 in
theorem ord_all : ∀ n : Fin 4, ordB (n.val + 1) = true := by decide +kernel
structure OrdIs (n : Nat) : Prop where
  srt : (stbS (ltOf (cmpN n)) (Array.range (fact n))).toList = ordL n
  perm : (ordL n).Perm (List.range (fact n))
  asc : (ordL n).Pairwise fun x y => lnN ((permsL n).getD x []) ≤ lnN ((permsL n).getD y [])
  len : ∀ v ∈ permsL n, lenP v = lnN v
theorem ordIs {n : Nat} (h1 : 1 ≤ n) (h4 : n ≤ 4) : OrdIs n := by
  have := ord_all ⟨n - 1, by omega⟩
  rw [show (⟨n - 1, by omega⟩ : Fin 4).val + 1 = n by simp; omega] at this
  simp only [ordB, Bool.and_eq_true, decide_eq_true_eq, List.all_eq_true] at this
  obtain ⟨⟨⟨a, b⟩, c⟩, e⟩ := this
  exact ⟨a, List.isPerm_iff.1 b, c, e⟩
theorem OrdIs.length {n : Nat} (h : OrdIs n) : (ordL n).length = fact n := by rw [h.perm.length_eq]; simp
theorem OrdIs.at_ {n : Nat} (h : OrdIs n) {i : Nat} (hi : i < fact n) : (ordL n).getD i 0 < fact n := by
  have hm : (ordL n).getD i 0 ∈ ordL n := by
    rw [List.getD_eq_getElem?_getD, List.getElem?_eq_getElem (by rw [h.length]; exact hi)]
    exact List.getElem_mem _
  simpa using h.perm.mem_iff.1 hm
def ordZ (n : Nat) : List Int := (ordL n).map fun (x : Nat) => (x : Int)

set_option maxRecDepth 100000 in
theorem sortOrder_any (v : Value) (n lo hi bx : Nat) (av : Value) (w : World) (h1 : 1 ≤ n) (h4 : n ≤ 4) (hv : OwnI 3 w lo hi v (idL (fact n)))
    (hk : ∀ W, Frm lo hi w W → W.cell? ⟨bx, 0, none⟩ = some av ∧ RdII W av (permsL n)) :
    Calls Tryz.prog 41 #[v, .func (.func 42) #[] #[.pointer (some ⟨bx, 0, none⟩)]] w fun e w' =>
      e = .returned (.tuple #[]) ∧ OwnI 3 w' lo hi v (ordZ n) ∧ Frm lo hi w w' := by
  have OI := ordIs h1 h4
  have hf := fact4 h1 (show n ≤ 5 by omega)
  have hf24 : fact n < 20 ∨ fact n = 24 := by
    have : n = 1 ∨ n = 2 ∨ n = 3 ∨ n = 4 := by omega
    rcases this with rfl | rfl | rfl | rfl <;> decide
  have hfn := hv.fn
  rw [idL_length] at hfn
  obtain ⟨p, cap, rfl, hnc, hcm, hp⟩ := hfn.shape
  obtain ⟨g, rfl, hg1, hg2, hg3⟩ := hp (by omega)
  obtain ⟨G, hrow, hG, _, _, _, _, _⟩ := hfn.opened
  obtain ⟨N, hN⟩ : ∃ N, N = fact n := ⟨_, rfl⟩
  have rl : (permsL n).length = N := by rw [permsL_length, hN]
  have sz : (Array.range N).size = N := by simp
  have enter : ∀ args w, (callFunc 42 args).run Tryz.prog w = .ok (.enter 42 args) w := enters_of Tryz.func42 (by kernel_rfl) rfl
  have hcmp : CmpZ Tryz.prog 42 #[.pointer (some ⟨bx, 0, none⟩)] (encN n) (cmpN n) g 0 (Array.range N).size w := by
    intro W dk hW _ x y
    obtain ⟨b1, b2⟩ := hk W (hW.frm hg1 hg2)
    have hx : x % fact n < (permsL n).length := by rw [rl, hN]; exact Nat.mod_lt _ (by omega)
    have hy : y % fact n < (permsL n).length := by rw [rl, hN]; exact Nat.mod_lt _ (by omega)
    have := cmpLen_any bx av (permsL n) (x % fact n) (y % fact n) W b1 b2 hx hy (fun i hi => (prm_p5 h1 (by omega) (by rw [← hN, ← rl]; exact hi)).ok) (by rw [rl]; omega)
    refine this.mono ?_
    rintro e w' ⟨rfl, hb⟩
    refine ⟨?_, hb⟩
    have m1 : ∀ x, x < (permsL n).length → (permsL n).getD x [] ∈ permsL n := fun x hx => by
      rw [List.getD_eq_getElem?_getD, List.getElem?_eq_getElem hx]
      exact List.getElem_mem _
    rw [OI.len _ (m1 _ hx), OI.len _ (m1 _ hy)]
    rfl
  have hH : Holds (encN n) w g 0 (Array.range N) := fun j hj => by
    rw [sz] at hj
    have e : (Array.range N)[j]! = j := by rw [getElem!_pos _ j (by simpa using hj)]; simp
    rw [e, Nat.zero_add]
    refine ⟨?_, hfn.frozen j⟩
    rw [hfn.cell (by rw [← hN]; exact hj)]
    unfold encN iv
    rw [idL_getD (by rw [← hN]; exact hj), Nat.mod_eq_of_lt (by rw [← hN]; exact hj)]
  have hcon := sortStable_any (encN n) (cmpN n) 42 #[.pointer (some ⟨bx, 0, none⟩)] g 0 cap (Array.range N) w enter hcmp ⟨fun _ => rfl, hH, hg3⟩ (by rw [sz, hN]; exact hf24)
  rw [sz] at hcon
  rw [← hN]
  refine hcon.mono ?_
  rintro e w' ⟨rfl, hS⟩
  refine ⟨rfl, ?_, hS.frm hg1 hg2⟩
  have hd : (stbS (ltOf (cmpN n)) (Array.range N)).toList = ordL n := by rw [hN]; exact OI.srt
  obtain ⟨D, hD⟩ : ∃ D, D = stbS (ltOf (cmpN n)) (Array.range N) := ⟨_, rfl⟩
  rw [← hD] at hd hS
  have hDs : D.size = N := by rw [← Array.length_toList, hd, OI.length, hN]
  have hDat : ∀ j, j < N → D[j]! = (ordL n).getD j 0 := fun j hj => by
    rw [getElem!_pos D j (by omega), List.getD_eq_getElem?_getD, ← hd]
    simp [show j < D.size by omega]
  obtain ⟨c, hc1, hc2, hc3⟩ := hrow
  have hrow' : w'.rowIs g 3 cap (fun k => if k < N then encN n D[k]! else G k) := by
    refine ⟨_, hS.at_ hc1, by simp [putCells, hc2], fun i hi => ?_⟩
    simp only [putCells, Array.getElem?_mapIdx, hc3 i hi, Option.map_some, Nat.zero_le, true_and, Nat.zero_add, Nat.sub_zero, hDs]
  refine OwnF.ints ?_
  have hl : (ordZ n).length = N := by unfold ordZ; rw [List.length_map, OI.length, hN]
  rw [hl]
  refine OwnF.mk' hrow' hg1 hg2 (by rw [hN]; exact hnc) hcm fun j hj => ?_
  simp only [hj, if_true]
  rw [hDat j hj]
  have hj2 : (ordL n).getD j 0 < fact n := OI.at_ (by rw [← hN]; exact hj)
  unfold encN iv ordZ
  rw [Nat.mod_eq_of_lt hj2]
  congr 1
  simp only [List.getD_eq_getElem?_getD, List.getElem?_map]
  rw [List.getElem?_eq_getElem (by rw [OI.length, ← hN]; exact hj)]
  simp

end Go.Proofs.YtgebjjpcgakjgaaGreat

namespace Go.Proofs.YtgebjjpcgakjgaaGreat
set_option linter.all false
open Go.RowKit

theorem ltL_ltB : ∀ xs ys, ltL xs ys = ltB xs ys
  | [], [] => rfl
  | [], _ :: _ => rfl
  | _ :: _, [] => rfl
  | x :: xs, y :: ys => by unfold ltL ltB; rw [ltL_ltB xs ys]
theorem cmpB_same : ∀ xs, cmpB xs xs = 0
  | [] => rfl
  | x :: xs => by unfold cmpB; rw [if_neg (by omega), if_neg (by omega)]; exact cmpB_same xs

set_option maxRecDepth 100000 in
set_option maxHeartbeats 2000000 in
theorem search_any (v u : Value) (rows : List (List Int)) (t : List Int) (k : Nat) (w : World) (h : RdII w v rows) (hu : Ints w u t) (hl : rows.length ≤ 1000) (hk : k < rows.length)
    (ht : rows.getD k [] = t) (ho : ∀ a, a < rows.length → ltB (rows.getD a []) t = decide (a < k)) :
    Calls Tryz.prog 60 #[v, u, .func (.func 62) #[] #[]] w fun e w' => e = .returned (.tuple #[.int .i64 (k : Int), .bool true]) ∧ w = w' := by
  obtain ⟨f, ⟨p, cap, rfl, ⟨hx1, hx⟩, hxc⟩, hf⟩ := h
  unfold maxLen at hx
  obtain ⟨n, hn⟩ : ∃ n, n = rows.length := ⟨_, rfl⟩
  obtain ⟨b, off, rfl, hc⟩ := hxc (by omega)
  rw [← hn] at hx1 hc hf hk ho hl ⊢
  have Hc := Lib.hid hc
  have Hf := Lib.hid hf
  have Ho := Lib.hid ho
  have Hu := Lib.hid hu
  have Ht := Lib.hid ht
  clear hxc hc hf ho hn hu ht
  go_enter Tryz.func60, Tryz.ntmps60
  go_wp2_with fail
  go_loopg [9, 10, 11] n (fun g s9 s10 s11 wr => ∃ i j : Nat, i ≤ k ∧ k ≤ j ∧ j ≤ n ∧ g = j - i ∧ s9 = .int .i64 (i : Int) ∧ s10 = .int .i64 (j : Int) ∧ w = wr)
  case atStart => exact ⟨0, n, Nat.zero_le _, by omega, Nat.le_refl _, rfl, rfl, rfl, rfl⟩
  case round =>
    obtain ⟨i, j, hik, hkj, hjn, rfl, rfl, rfl, rfl⟩ := hrel
    by_cases hij : i < j
    · have hiji : (i : Int) < (j : Int) := by omega
      obtain ⟨m, hm⟩ : ∃ m : Nat, m = (i + j) / 2 := ⟨_, rfl⟩
      have hmn : m < n := by omega
      have hmi : (m : Int) < (n : Int) := by omega
      have d1 := Hc.out m hmn
      have Hm := Lib.hid hm
      obtain ⟨z, hz⟩ : ∃ z, z = f m := ⟨_, rfl⟩
      have Hz := Lib.hid (show Ints w z (rows.getD m []) by rw [hz]; exact Hf.out m hmn)
      rw [← hz, hm] at d1
      have hmi2 : ((i : Int) + (j : Int)) / 2 < (n : Int) := by omega
      clear hm hz
      go_wp2_with fail
      refine (compare_any _ _ (rows.getD m []) t _ Hz.out Hu.out).mono ?_
      rintro e w' ⟨rfl, rfl⟩
      obtain ⟨c, hcc⟩ : ∃ c, c = cmpB (rows.getD m []) t := ⟨_, rfl⟩
      have hcl : c < 0 ↔ m < k := by
        have h1 := cmpB_lt (rows.getD m []) t
        rw [← hcc, Ho.out m hmn] at h1
        by_cases h2 : m < k
        · simp [h2] at h1
          exact ⟨fun _ => h2, fun _ => h1⟩
        · simp [h2] at h1
          exact ⟨fun h => absurd h (by omega), fun h => absurd h h2⟩
      rw [← hcc]
      clear hcc
      by_cases h2 : m < k
      · have h3 : c < 0 := hcl.2 h2
        go_wp2_with fail
        go_roundg (j - (m + 1))
        case measure => have := Hm.out; omega
        case rel => exact ⟨m + 1, j, by have := Hm.out; omega, hkj, hjn, rfl, by have := Hm.out; go_num, rfl, rfl⟩
      · have h3 : ¬ c < 0 := fun h => h2 (hcl.1 h)
        go_wp2_with fail
        go_roundg (m - i)
        case measure => have := Hm.out; omega
        case rel => exact ⟨i, m, hik, by omega, by have := Hm.out; omega, rfl, rfl, by have := Hm.out; congr 1; omega, rfl⟩
    · have hiji : ¬ (i : Int) < (j : Int) := by omega
      obtain rfl : i = k := by omega
      have hin : (i : Int) < (n : Int) := by omega
      have d1 := Hc.out i hk
      go_wp2_with fail
      refine (compare_any _ _ _ t _ (Hf.out i hk) Hu.out).mono ?_
      rintro e w' ⟨rfl, rfl⟩
      rw [Ht.out, cmpB_same]
      go_wp2_with fail
      go_ret2
      exact ⟨rfl, rfl⟩

end Go.Proofs.YtgebjjpcgakjgaaGreat

namespace Go.Proofs.YtgebjjpcgakjgaaGreat
set_option linter.all false
open Go.RowKit

set_option maxRecDepth 100000 in
set_option maxHeartbeats 8000000 in
theorem implIsGkm_ex (N : Int) (v u : Value) (vs y : List Int) (w : World) (hv : Ints w v vs) (hy : Ints w u y) :
    Calls Tryz.prog 39 #[.int .i64 N, v, u] w fun e w' => ∃ b, e = .returned (.bool b) ∧ GkIs N vs y b ∧ Below w.heap.size w w' := by
  have HV := Lib.hid hv
  have HY := Lib.hid hy
  obtain ⟨pv, cv, rfl, ⟨hv1, hv2⟩, hvc⟩ := hv
  obtain ⟨py, cy, rfl, ⟨hy1, hy2⟩, hyc⟩ := hy
  unfold maxLen at hv2 hy2
  go_enter Tryz.func39, Tryz.ntmps39
  go_wp2_with fail
  refine (weightsOk_any _ _ y _ HY.out).mono ?_
  rintro e w1 ⟨rfl, hq1⟩
  cases ha : apOk N y with
  | false =>
    go_wp2_with fail
    go_ret
    exact ⟨false, rfl, GkIs.no1 ha, hq1.below _⟩
  | true =>
  obtain ⟨n, rfl, hn1, hn4, hyl, hyr, hyd⟩ := ap_facts ha
  have Ha := Lib.hid ha
  have Hyl := Lib.hid hyl
  have Hyr := Lib.hid hyr
  have Hyd := Lib.hid hyd
  have HQ2 := Lib.hid hq1
  clear ha hyl hyr hyd hq1
  go_wp2_with fail
  refine (implAllPerms_any (n : Int) _).mono ?_
  rintro e w3 ⟨ul, rfl, hol, hb3⟩
  rw [show allPermsL (n : Int) = permsL n by simp only [allPermsL, Int.toNat_natCast]; rw [if_pos (by omega)]] at hol
  obtain ⟨L, hL⟩ : ∃ L, L = permsL n := ⟨_, rfl⟩
  have hLl : L.length = fact n := by rw [hL]; simp [permsL]
  obtain ⟨F, hF⟩ : ∃ F, F = fact n := ⟨_, rfl⟩
  have hF24 : F ≤ 24 := by rw [hF]; exact Nat.le_trans (fact_le hn4) (by decide)
  have hG := gkN hn1 hn4
  rw [← hL] at hol
  have HRD := Lib.hid hol.rd
  obtain ⟨f, hf1, hf2⟩ := hol.rd
  rw [hLl, ← hF] at hf1 hf2
  obtain ⟨pl, cl, rfl, hcl, hcl2⟩ := hol.shape
  rw [hLl, ← hF] at hcl HRD ⊢
  unfold maxLen at hcl2
  have HL := Lib.hid hL
  have HF := Lib.hid hF
  have HLl := Lib.hid hLl
  have Hf1 := Lib.hid hf1
  have Hf2 := Lib.hid hf2
  have HG := Lib.hid hG
  have HB3 := Lib.hid ((HQ2.out.below _).trans (hb3.mono (by rw [HQ2.out.size]; exact Nat.le_refl _)))
  clear hol hL hLl hF hG hf1 hf2 hb3 HQ2
  by_cases hvF : vs.length = F
  case neg =>
    have hvi : ((vs.length : Int) != (F : Int)) = true := by simp; omega
    go_wp2_with fail
    go_ret
    first | exact ⟨false, rfl, GkIs.no2 (by rw [Int.toNat_natCast, ← HF.out]; exact hvF), HB3.out⟩ | exact .inl ⟨rfl, GkIs.no2 (by rw [Int.toNat_natCast, ← HF.out]; exact hvF), HB3.out⟩
  rw [hvF] at HV hvc hv1 ⊢
  have HvF := Lib.hid hvF
  have hvi : ((F : Int) != (F : Int)) = false := by simp
  rw [Hyl.out] at HY hyc hy1 ⊢
  clear hvF
  go_wp2_with fail
  go_loopg [9, 29] F (fun g s9 s29 wr => ∃ k : Nat, k ≤ F ∧ g = F - k ∧ s29 = .int .i64 (k : Int) ∧ w3 = wr ∧ Hid (∀ j, j < k → -1000000000000 ≤ vs.getD j 0 ∧ vs.getD j 0 ≤ 1000000000000))
  case atStart => exact ⟨0, Nat.zero_le _, rfl, rfl, rfl, Lib.hid fun j hj => absurd hj (Nat.not_lt_zero _)⟩
  case round =>
    obtain ⟨k, hk, rfl, rfl, rfl, hp⟩ := hrel
    by_cases hlt : k < F
    · obtain ⟨bv, ov, hpv, hvc'⟩ := hvc (by omega)
      subst hpv
      obtain ⟨x, hx'⟩ : ∃ x, x = vs.getD k 0 := ⟨_, rfl⟩
      have c1 := cell_below HB3.out (hvc' k hlt)
      unfold iv at c1
      rw [← hx'] at c1
      have Hx := Lib.hid hx'
      have hki : (k : Int) < (F : Int) := by omega
      have bad : ¬ (-1000000000000 ≤ x ∧ x ≤ 1000000000000) → mostB vs = false := fun hr => by
        unfold mostB
        exact decide_eq_false fun e => hr (by rw [Hx.out]; exact e _ (getD_mem (by rw [HvF.out]; exact hlt)))
      have Bad := Lib.hid bad
      clear hx' hvc' bad
      by_cases h1 : x < -1000000000000
      · go_wp2_with fail
        go_ret
        first | exact ⟨false, rfl, GkIs.no3 (Bad.out (by omega)), HB3.out⟩ | exact .inl ⟨rfl, GkIs.no3 (Bad.out (by omega)), HB3.out⟩
      by_cases h2 : 1000000000000 < x
      · go_wp2_with fail
        go_ret
        first | exact ⟨false, rfl, GkIs.no3 (Bad.out (by omega)), HB3.out⟩ | exact .inl ⟨rfl, GkIs.no3 (Bad.out (by omega)), HB3.out⟩
      go_wp2_with fail
      go_roundg (F - (k + 1))
      case measure => omega
      case rel =>
        refine ⟨k + 1, by omega, rfl, by go_num, rfl, Lib.hid fun j hj => ?_⟩
        by_cases e : j = k
        · subst e; rw [← Hx.out]; omega
        · exact hp.out j (by omega)
    · have hki : ¬ (k : Int) < (F : Int) := by omega
      obtain rfl : k = F := by omega
      have Hm := Lib.hid (show mostB vs = true by unfold mostB; exact decide_eq_true (all_of_getD fun j hj => hp.out j (by have := HvF.out; omega)))
      clear hp
      go_wp2_with fail
      go_loopg [10, 11, 12, 13, 14, 15, 42] k (fun g s10 s11 s12 s13 s14 s15 s42 wr => ∃ x : Nat, x ≤ k ∧ g = k - x ∧ s42 = .int .i64 (x : Int) ∧ Hid (∀ x' i j, x' < x → i < j → j < n → gkAt n vs y x' i j) ∧ Hid (Below w3.heap.size w3 wr))
      case atStart => exact ⟨0, Nat.zero_le _, rfl, rfl, Lib.hid fun x' _ _ h => absurd h (Nat.not_lt_zero _), Lib.hid (Below.refl _ _)⟩
      case round =>
        obtain ⟨x, hx, rfl, rfl, hp, hb⟩ := hrel
        obtain ⟨w4, rfl⟩ : ∃ x : World, x = wr := ⟨_, rfl⟩
        have Hp := Lib.hid hp.out
        have Hb := Lib.hid hb.out
        clear hp hb
        by_cases hxF : x < k
        · have hxi : (x : Int) < (k : Int) := by omega
          obtain ⟨row, hrow⟩ : ∃ row, row = (permsL n).getD x [] := ⟨_, rfl⟩
          have hrl : row.length = n := by rw [hrow]; exact HG.out.len x (by rw [← HF.out]; exact hxF)
          have hr := Hf2.out x hxF
          rw [HL.out, ← hrow] at hr
          have hr' := hr
          obtain ⟨pr, kr, er, ⟨hkr, hkr2⟩, hrc0⟩ := hr'
          unfold maxLen at hkr2
          rw [er, hrl] at hr
          rw [hrl] at hkr hrc0 er
          obtain ⟨br, orr, hpr, hrc⟩ := hrc0 (by omega)
          subst hpr
          have hf1 := Hf1.out
          obtain ⟨_, _, e0, _, hlc0⟩ := hf1
          injection e0 with e1 e2 e3
          subst e1 e3
          obtain ⟨bl, ol, hpl, hlc⟩ := hlc0 (by omega)
          subst hpl
          have d0 := hlc x hxF
          rw [er] at d0
          have d0' := cell_below Hb.out d0
          have Hr := Lib.hid hr
          have Hrl := Lib.hid hrl
          have Hrow := Lib.hid hrow
          have Hrc := Lib.hid hrc
          clear hrow hrl hr er hrc0 hrc hlc0 hlc d0 e2
          go_wp2_with fail
          go_loopg [12, 13, 14, 15, 48] n (fun g s12 s13 s14 s15 s48 wr => ∃ j : Nat, j ≤ n ∧ g = n - j ∧ s48 = .int .i64 (j : Int) ∧ Hid (∀ i' j', j' < j → i' < j' → gkAt n vs y x i' j') ∧ Hid (Below w3.heap.size w3 wr))
          case atStart => exact ⟨0, Nat.zero_le _, rfl, rfl, Lib.hid fun _ j' h => absurd h (Nat.not_lt_zero _), Hb⟩
          case round =>
            obtain ⟨j, hjn, rfl, rfl, hp1, hb1⟩ := hrel
            obtain ⟨w5, rfl⟩ : ∃ x : World, x = wr := ⟨_, rfl⟩
            have Hp1 := Lib.hid hp1.out
            have Hb1 := Lib.hid hb1.out
            clear hp1 hb1
            by_cases hj : j < n
            · have hji : (j : Int) < (n : Int) := by omega
              go_wp2_with fail
              go_loopg [13, 14, 15, 52] j (fun g s13 s14 s15 s52 wr => ∃ i : Nat, i ≤ j ∧ g = j - i ∧ s52 = .int .i64 (i : Int) ∧ Hid (∀ i', i' < i → gkAt n vs y x i' j) ∧ Hid (Below w3.heap.size w3 wr))
              case atStart => exact ⟨0, Nat.zero_le _, rfl, rfl, Lib.hid fun i' h => absurd h (Nat.not_lt_zero _), Hb1⟩
              case round =>
                obtain ⟨i, hij0, rfl, rfl, hp2, hb2⟩ := hrel
                obtain ⟨w6, rfl⟩ : ∃ x : World, x = wr := ⟨_, rfl⟩
                have Hp2 := Lib.hid hp2.out
                have Hb2 := Lib.hid hb2.out
                clear hp2 hb2
                by_cases hij : i < j
                · have hiji : (i : Int) < (j : Int) := by omega
                  have hin : i < n := by omega
                  obtain ⟨mi, hmi, hmin⟩ := HG.out.rng x i (by rw [← HF.out]; exact hxF) hin
                  obtain ⟨mj, hmj, hmjn⟩ := HG.out.rng x j (by rw [← HF.out]; exact hxF) hj
                  have hmne : mi ≠ mj := fun e => HG.out.inj x i j (by rw [← HF.out]; exact hxF) hij hj (by rw [hmi, hmj, e])
                  rw [← Hrow.out] at hmi hmj
                  obtain ⟨o, ho⟩ : ∃ o, o = plN (swapL row i j) := ⟨_, rfl⟩
                  have hpl := HG.out.plc x i j (by rw [← HF.out]; exact hxF) hij hj
                  rw [← Hrow.out, ← ho, ← HF.out] at hpl
                  obtain ⟨hoF, hoL⟩ := hpl
                  obtain ⟨bv, ov, hpv, hvc'⟩ := hvc (by omega)
                  subst hpv
                  obtain ⟨by', oy, hpy, hyc'⟩ := hyc (by omega)
                  subst hpy
                  obtain ⟨v1, hv1'⟩ : ∃ v1, v1 = vs.getD x 0 := ⟨_, rfl⟩
                  obtain ⟨v2, hv2'⟩ : ∃ v2, v2 = vs.getD o 0 := ⟨_, rfl⟩
                  obtain ⟨y1, hy1'⟩ : ∃ y1, y1 = y.getD mi 0 := ⟨_, rfl⟩
                  obtain ⟨y2, hy2'⟩ : ∃ y2, y2 = y.getD mj 0 := ⟨_, rfl⟩
                  have hv1b := most_at Hm.out (k := x) (by rw [HvF.out]; exact hxF)
                  have hv2b := most_at Hm.out (k := o) (by rw [HvF.out]; exact hoF)
                  have hy1b := Hyr.out mi hmin
                  have hy2b := Hyr.out mj hmjn
                  have hyne := Hyd.out mi mj hmin hmjn hmne
                  rw [← hv1'] at hv1b
                  rw [← hv2'] at hv2b
                  rw [← hy1'] at hy1b hyne
                  rw [← hy2'] at hy2b hyne
                  have hby3 : ∀ {a : Addr} {z : Value}, w.cell? a = some z → w6.cell? a = some z := fun h => cell_below Hb2.out (cell_below HB3.out h)
                  have d2 : w6.cell? ⟨br, orr + i, none⟩ = some (.int .i64 (mi : Int)) := by
                    have := cell_below Hb2.out (Hrc.out i hin)
                    unfold iv at this
                    rwa [hmi] at this
                  have d3 : w6.cell? ⟨br, orr + j, none⟩ = some (.int .i64 (mj : Int)) := by
                    have := cell_below Hb2.out (Hrc.out j hj)
                    unfold iv at this
                    rwa [hmj] at this
                  have d4 : w6.cell? ⟨bv, ov + x, none⟩ = some (.int .i64 v1) := by rw [hv1']; exact hby3 (hvc' x hxF)
                  have d5 : w6.cell? ⟨bv, ov + o, none⟩ = some (.int .i64 v2) := by rw [hv2']; exact hby3 (hvc' o hoF)
                  have d6 : w6.cell? ⟨by', oy + mi, none⟩ = some (.int .i64 y1) := by rw [hy1']; exact hby3 (hyc' mi hmin)
                  have d7 : w6.cell? ⟨by', oy + mj, none⟩ = some (.int .i64 y2) := by rw [hy2']; exact hby3 (hyc' mj hmjn)
                  have Hgk := Lib.hid (show gkAt n vs y x i j ↔ (v1 - v2).tmod (y1 - y2) = 0 by
                    unfold gkAt
                    rw [← Hrow.out, ← ho, hmi, hmj, Int.toNat_natCast, Int.toNat_natCast, ← hv1', ← hv2', ← hy1', ← hy2'])
                  have Ho := Lib.hid ho
                  have HoL := Lib.hid hoL
                  have Hr6 := Lib.hid (Hr.out.below Hb2.out)
                  have HRD6 := Lib.hid (HRD.out.below Hb2.out)
                  have hoi : (o : Int) < (k : Int) := by omega
                  have hmii : (mi : Int) < (n : Int) := by omega
                  have hmji : (mj : Int) < (n : Int) := by omega
                  have hyz : ¬ y1 - y2 = 0 := by omega
                  clear hmi hmj ho hoL hvc' hyc' hv1' hv2' hy1' hy2' hby3
                  go_wp2_with fail
                  refine (exchanged_any _ row i j _ Hr6.out (by rw [Hrl.out]; exact hin) (by rw [Hrl.out]; exact hj) (by omega) (by rw [Hrl.out]; omega)).mono ?_
                  rintro e w7 ⟨us, rfl, hos, hb7⟩
                  have Hos := Lib.hid hos.ints
                  obtain ⟨ps, ks, rfl, _, _⟩ := hos.shape
                  have d2' := cell_below hb7 d2
                  have d3' := cell_below hb7 d3
                  have d4' := cell_below hb7 d4
                  have d5' := cell_below hb7 d5
                  have d6' := cell_below hb7 d6
                  have d7' := cell_below hb7 d7
                  have HRD7 := Lib.hid (HRD6.out.below hb7)
                  have Hb7 := Lib.hid (Hb2.out.trans (hb7.mono Hb2.out.size))
                  clear hos hb7 d2 d3 d4 d5 d6 d7
                  go_wp2_with fail
                  refine (search_any _ _ L (swapL row i j) o _ HRD7.out Hos.out (by rw [HLl.out, ← HF.out]; omega) (by rw [HLl.out, ← HF.out]; exact hoF) (by rw [HL.out]; exact HoL.out) (fun a ha => ?_)).mono ?_
                  · rw [← HoL.out, HL.out, ← ltL_ltB]
                    exact HG.out.lt a o (by rwa [HLl.out] at ha) (by rw [← HF.out]; exact hoF)
                  rintro e w8 ⟨rfl, rfl⟩
                  by_cases hz : (v1 - v2).tmod (y1 - y2) = 0
                  · go_wp2_with fail
                    go_quiet (fail)
                    have Hb9 := Lib.hid (Below.drewN Hb7.out nq)
                    go_wp2_with fail
                    go_roundg (j - (i + 1))
                    case measure => omega
                    case rel =>
                      refine ⟨i + 1, by omega, rfl, by go_num, Lib.hid fun i' h1 => ?_, Hb9⟩
                      by_cases e : i' = i
                      · subst e; exact Hgk.out.2 hz
                      · exact Hp2.out i' (by omega)
                  · go_wp2_with fail
                    go_quiet (fail)
                    have Hb9 := Lib.hid (Below.drewN Hb7.out nq)
                    go_wp2_with fail
                    go_ret
                    first | exact ⟨false, rfl, GkIs.no4 (x := x) (i := i) (j := j) (by rw [Int.toNat_natCast, ← HF.out]; exact hxF) hij (by rw [Int.toNat_natCast]; exact hj) (by rw [Int.toNat_natCast, Hgk.out]; exact hz), HB3.out.trans (Hb9.out.mono HB3.out.size)⟩ | exact .inl ⟨rfl, GkIs.no4 (x := x) (i := i) (j := j) (by rw [Int.toNat_natCast, ← HF.out]; exact hxF) hij (by rw [Int.toNat_natCast]; exact hj) (by rw [Int.toNat_natCast, Hgk.out]; exact hz), HB3.out.trans (Hb9.out.mono HB3.out.size)⟩
                · have hiji : ¬ (i : Int) < (j : Int) := by omega
                  go_wp2_with fail
                  go_roundg (n - (j + 1))
                  case measure => omega
                  case rel =>
                    refine ⟨j + 1, by omega, rfl, by go_num, Lib.hid fun i' j' h1 h2 => ?_, Hb2⟩
                    by_cases e : j' = j
                    · subst e; exact Hp2.out i' (by omega)
                    · exact Hp1.out i' j' (by omega) h2
            · have hji : ¬ (j : Int) < (n : Int) := by omega
              go_wp2_with fail
              go_roundg (k - (x + 1))
              case measure => omega
              case rel =>
                refine ⟨x + 1, by omega, rfl, by go_num, Lib.hid fun x' i' j' h1 h2 h3 => ?_, Hb1⟩
                by_cases e : x' = x
                · subst e; exact Hp1.out i' j' (by omega) h2
                · exact Hp.out x' i' j' (by omega) h2 h3
        · have hxi : ¬ (x : Int) < (k : Int) := by omega
          go_wp2_with fail
          go_ret
          refine .inr ⟨rfl, ⟨fun _ => ⟨Ha.out, by rw [Int.toNat_natCast, HvF.out]; exact HF.out, Hm.out, fun x' i' j' h1 h2 h3 => ?_⟩, fun _ => rfl⟩, HB3.out.trans (Hb.out.mono HB3.out.size)⟩
          rw [Int.toNat_natCast] at h1 h3 ⊢
          exact Hp.out x' i' j' (by rw [← HF.out] at h1; omega) h2 h3
theorem implIsGkm_any (N : Int) (v u : Value) (vs y : List Int) (w : World) (hv : Ints w v vs) (hy : Ints w u y) :
    Calls Tryz.prog 39 #[.int .i64 N, v, u] w fun e w' => e = .returned (.bool (Classical.epsilon (GkIs N vs y))) ∧ Below w.heap.size w w' :=
  (implIsGkm_ex N v u vs y w hv hy).mono fun e w' ⟨b, h1, h2, h3⟩ => ⟨by rw [h1, h2.eps], h3⟩

end Go.Proofs.YtgebjjpcgakjgaaGreat
