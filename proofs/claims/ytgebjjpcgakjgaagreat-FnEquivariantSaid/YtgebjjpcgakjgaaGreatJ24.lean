/-
  What ExpandLocal says of values that are sums of values of permutations: their numbers. Plain.
  The product with an exchange of neighbours. Plain.
  Looking up a class among those of a sum, and how many there are. Plain.
  The product of two shapes by values at fixed points: only shapes appear, in their order. Plain.
  Weighted puzzles, as lists; what their weights add up to, as polynomials in the differences of neighbouring numbers. Plain.
-/
import Derived.Test.YtgebjjpcgakjgaaGreatJ23
import Derived.Test.YtgebjjpcgakjgaaGreatJ19
namespace Go.Proofs.YtgebjjpcgakjgaaGreat
set_option linter.all false
set_option maxRecDepth 100000
open Go.RowKit

section
variable {n : Nat} {ys : List Int}
theorem pm_mem (h1 : 1 ≤ n) (h4 : n ≤ 4) {u : List Int} (hu : P5 n u) : ∃ x, x < fact n ∧ pmA n x = u := by
  obtain ⟨x, hx, e⟩ := List.mem_iff_getElem.1 (((aL h1 h4).mem u).2 hu)
  rw [permsL_length] at hx
  refine ⟨x, hx, ?_⟩
  unfold pmA
  rw [List.getD_eq_getElem?_getD, List.getElem?_eq_getElem (by rw [permsL_length]; exact hx)]
  exact e
theorem pm_inj (h1 : 1 ≤ n) (h4 : n ≤ 4) {x y : Nat} (hx : x < fact n) (hy : y < fact n) (e : pmA n x = pmA n y) : x = y := by
  have hn := List.pairwise_iff_getElem.1 (aL h1 h4).nodup
  have g : ∀ x (h : x < fact n), pmA n x = (permsL n)[x]'(by rw [permsL_length]; exact h) := fun x h => by
    unfold pmA
    rw [List.getD_eq_getElem?_getD, List.getElem?_eq_getElem (by rw [permsL_length]; exact h)]; rfl
  rw [g x hx, g y hy] at e
  rcases Nat.lt_trichotomy x y with h | h | h
  · exact absurd e (hn x y _ _ h)
  · exact h
  · exact absurd e.symm (hn y x _ _ h)
/-- the numbers of those that are left -/
def lftC (n : Nat) (c : List Int → Int) (done : List Nat) (w : List Int) : Int := if w ∈ done.map (pmA n) then 0 else c w
theorem lftC_snoc (c : List Int → Int) (done : List Nat) (x : Nat) (w : List Int) : lftC n c (done ++ [x]) w = if w = pmA n x then 0 else lftC n c done w := by
  unfold lftC
  by_cases e : w = pmA n x
  · rw [if_pos e, if_pos (by rw [List.map_append, List.mem_append, e]; exact .inr List.mem_cons_self)]
  · rw [if_neg e]
    by_cases h : w ∈ done.map (pmA n)
    · rw [if_pos h, if_pos (by rw [List.map_append, List.mem_append]; exact .inl h)]
    · rw [if_neg h, if_neg (by
        rw [List.map_append, List.mem_append]
        rintro (h' | h')
        · exact h h'
        · exact e (by simpa using h'))]
theorem exGo_exp (hy : YOk n ys) {c : List Int → Int} (hc : ∀ x, x < fact n → (c (pmA n x)).natAbs ≤ 1000000000) : ∀ (l done : List Nat) (rest : List Int) (out : List Cls), done ++ l = ordL n → rest.length = fact n →
    (∀ i, i < fact n → rest.getD i 0 = sumF (fun w => lftC n c done w * FW n ys w (pmA n i)) (permsL n)) →
    exGo n ys l rest out = some (out ++ (l.filter fun x => !decide (c (pmA n x) = 0)).map fun x => (trimL (pmA n x), c (pmA n x)))
  | [], done, rest, out, _, _, _ => by rw [exGo]; simp
  | x :: l, done, rest, out, hd, hl, hr => by
    have OI := ordIs hy.one hy.four
    have A := aL hy.one hy.four
    have hp : (done ++ x :: l).Perm (List.range (fact n)) := by rw [hd]; exact OI.perm
    have hnd : (done ++ x :: l).Nodup := (List.Perm.nodup_iff hp).2 List.nodup_range
    have hx : x < fact n := by simpa using hp.mem_iff.1 (List.mem_append_right _ List.mem_cons_self)
    have hlt : ∀ y ∈ done, y < fact n := fun y hy => by simpa using hp.mem_iff.1 (List.mem_append_left _ hy)
    have hpx := pm_p5 hy hx
    have hxd : pmA n x ∉ done.map (pmA n) := fun h => by
      obtain ⟨y, hyd, e⟩ := List.mem_map.1 h
      have := pm_inj hy.one hy.four (hlt y hyd) hx e
      subst this
      exact (List.nodup_append.1 hnd).2.2 _ hyd _ List.mem_cons_self rfl
    have hasc : ∀ u, P5 n u → lnN u < lnN (pmA n x) → lftC n c done u = 0 := fun u hu hlen => by
      obtain ⟨y, hyF, e⟩ := pm_mem hy.one hy.four hu
      have hyo : y ∈ done ++ x :: l := hp.mem_iff.2 (by simpa using hyF)
      rcases List.mem_append.1 hyo with h | h
      · unfold lftC
        rw [if_pos (List.mem_map.2 ⟨y, h, e⟩)]
      · exfalso
        have hpw := OI.asc
        rw [← hd] at hpw
        have h2 := (List.pairwise_append.1 hpw).2.1
        rw [List.pairwise_cons] at h2
        rw [← e] at hlen
        rcases List.mem_cons.1 h with rfl | h
        · exact absurd hlen (Nat.lt_irrefl _)
        · have := h2.1 y h
          exact absurd hlen (Nat.not_lt.2 this)
    have hcx : lftC n c done (pmA n x) = c (pmA n x) := by unfold lftC; rw [if_neg hxd]
    have hrx : rest.getD x 0 = c (pmA n x) * (tbA n ys x).getD x 0 := by
      rw [hr x hx, sum_at hy.len hy.one hy.four hpx hasc, hcx, tb_at hy hx hx]
    have hT := tb_ne hy hx
    have hq : qoA n ys rest x = c (pmA n x) := by
      unfold qoA
      rw [hrx]
      exact Int.mul_tdiv_cancel _ hT
    have hb := hc x hx
    have hgood : ¬ badA n ys rest x := by
      unfold badA
      rw [hq, hrx]
      omega
    have hd' : (done ++ [x]) ++ l = ordL n := by rw [← hd]; simp
    have hsum : ∀ i, i < fact n → sumF (fun w => lftC n c (done ++ [x]) w * FW n ys w (pmA n i)) (permsL n) = rest.getD i 0 - c (pmA n x) * FW n ys (pmA n x) (pmA n i) := fun i hi => by
      rw [hr i hi, ← sumF_delta (v := pmA n x) (fun w => c w * FW n ys w (pmA n i)) A.nodup ((A.mem _).2 hpx), ← sumF_sub]
      refine sumF_congr fun w _ => ?_
      rw [lftC_snoc]
      by_cases e : w = pmA n x
      · rw [if_pos e, if_pos e, e, hcx]; omega
      · rw [if_neg e, if_neg e]; omega
    rw [exGo, if_neg hgood, hq]
    by_cases h0 : c (pmA n x) = 0
    · rw [if_pos h0, List.filter_cons_of_neg (by simp [h0])]
      exact exGo_exp hy hc l (done ++ [x]) rest out hd' hl fun i hi => by rw [hsum i hi, h0]; omega
    · rw [if_neg h0, List.filter_cons_of_pos (by simp [h0]), List.map_cons]
      rw [exGo_exp hy hc l (done ++ [x]) _ _ hd' (by rw [subL_length]; exact hl) fun i hi => by rw [subL_getD (by rw [hl]; exact hi), hsum i hi, tb_at hy hx hi]]
      simp
theorem lftC_nil (c : List Int → Int) (w : List Int) : lftC n c [] w = c w := by unfold lftC; simp
/-- the classes of a sum, and that it is taken apart whole -/
def sumC (n : Nat) (c : List Int → Int) : List Cls := srtC (((ordL n).filter fun x => !decide (c (pmA n x) = 0)).map fun x => (trimL (pmA n x), c (pmA n x)))
theorem expE_sum (hy : YOk n ys) {c f : List Int → Int} (h : Ex n ys f c) (hc : ∀ w, P5 n w → (c w).natAbs ≤ 1000000000) {vs : List Int} (hl : vs.length = fact n) (hf : ∀ i, i < fact n → vs.getD i 0 = f (pmA n i)) :
    expE n vs ys (ordL n) = (sumC n c, true) := by
  unfold expE
  rw [exGo_exp hy (fun x hx => hc _ (pm_p5 hy hx)) (ordL n) [] vs [] rfl hl fun i hi => by
    rw [hf i hi, h _ (pm_p5 hy hi)]
    exact sumF_congr fun w _ => by rw [lftC_nil]]
  rfl
theorem filter_one : ∀ (l : List Nat) (x : Nat), l.Nodup → x ∈ l → (l.filter fun y => decide (y = x)) = [x]
  | [], _, _, h => by cases h
  | y :: l, x, hn, h => by
    rw [List.nodup_cons] at hn
    by_cases e : y = x
    · rw [List.filter_cons_of_pos (by simpa using e), e]
      congr 1
      rw [List.filter_eq_nil_iff]
      intro z hz
      simp only [decide_eq_true_eq]
      exact fun e2 => hn.1 (by rw [e, ← e2]; exact hz)
    · rw [List.filter_cons_of_neg (by simpa using e)]
      exact filter_one l x hn.2 ((List.mem_cons.1 h).resolve_left fun e2 => e e2.symm)
/-- a permutation's own values are taken apart as itself -/
theorem expE_self (hy : YOk n ys) {u : List Int} (hu : P5 n u) : expE n (tabL u ys) ys (ordL n) = ([(trimL u, 1)], true) := by
  rw [expE_sum hy (Ex.one hy.one hy.four hu) (fun w _ => by split <;> decide) (by rw [tabL_length, hu.len]) fun i hi => tab_at hy hu hi]
  obtain ⟨x, hx, e⟩ := pm_mem hy.one hy.four hu
  have OI := ordIs hy.one hy.four
  have hf : ((ordL n).filter fun y => !decide ((if pmA n y = u then (1 : Int) else 0) = 0)) = [x] := by
    rw [← filter_one (ordL n) x ((List.Perm.nodup_iff OI.perm).2 List.nodup_range) (OI.perm.mem_iff.2 (by simpa using hx))]
    refine List.filter_congr fun y hyo => ?_
    have hyF : y < fact n := by simpa using OI.perm.mem_iff.1 hyo
    by_cases h : y = x
    · rw [h, if_pos e]; simp
    · rw [if_neg fun h' => h (pm_inj hy.one hy.four hyF hx (by rw [h', e]))]; simp [h]
  unfold sumC
  rw [hf]
  simp only [List.map_cons, List.map_nil, e, if_true]
  rfl
/-- products are taken apart whole -/
theorem expE_prod (hy : YOk n ys) {u v : List Int} (hu : P5 n u) (hv : P5 n v) : ∃ c, Ex n ys (fun p => FW n ys u p * FW n ys v p) c ∧ (∀ w, P5 n w → (c w).natAbs ≤ 28 ^ lnN w) ∧ expE n (mulT n ys u v) ys (ordL n) = (sumC n c, true) := by
  obtain ⟨c, hc⟩ := Ex.prod hy.len hy.one hy.four u hv
  have hb : ∀ w, P5 n w → (c w).natAbs ≤ 28 ^ lnN w := fun w hw => prod_bound hy.len hy.one hy.four hy.dst hy.nine _ w u v c rfl hw hu hv hc
  refine ⟨c, hc, hb, expE_sum hy hc (fun w hw => ?_) (mulT_length n ys u v) fun i hi => by rw [mulT_getD hi, tab_at hy hu hi, tab_at hy hv hi]⟩
  have h6 : lnN w ≤ 6 := by
    have h1 := (wrd_at hw).2.2.2
    have h4 := hy.four
    have h2 : n * (n - 1) ≤ 4 * 3 := Nat.mul_le_mul h4 (by omega)
    omega
  exact Nat.le_trans (hb w hw) (Nat.le_trans (Nat.pow_le_pow_right (by omega) h6) (by decide))
end

end Go.Proofs.YtgebjjpcgakjgaaGreat

namespace Go.Proofs.YtgebjjpcgakjgaaGreat
set_option linter.all false
set_option maxRecDepth 100000
open Go.RowKit

/-- the permutations one longer, by an exchange of a place up to k with one behind it -/
def cvK (v : List Int) (k : Nat) : List (List Int) := (List.range (k + 1)).flatMap fun a => ((List.range v.length).filter fun b => decide (k < b) && decide (lnN (swapL v a b) = lnN v + 1)).map fun b => swapL v a b
def upK (v : List Int) (k : Nat) : List (List Int) := (List.range (k + 1)).flatMap fun i => cvUp v i
def dnK (v : List Int) (k : Nat) : List (List Int) := (List.range (k + 1)).flatMap fun i => cvDn v i
def cvB (v : List Int) : Bool := (List.range (v.length - 1)).all fun k => (upK v k).isPerm (dnK v k ++ cvK v k) && decide (cvK v k).Nodup && (cvK v k).all (fun u => permOk u && decide (u.length = v.length) && decide (u ≠ v)) && decide (cvK (idL v.length) k = [sw k (idL v.length)])
set_option maxRecDepth 100000 in
theorem cv_all : all5 cvB = true := by decide +kernel
structure CvIs (n : Nat) (v : List Int) (k : Nat) : Prop where
  perm : (upK v k).Perm (dnK v k ++ cvK v k)
  nodup : (cvK v k).Nodup
  p5 : ∀ u ∈ cvK v k, P5 n u ∧ u ≠ v
  id : cvK (idL n) k = [Go.Proofs.YtgebjjpcgakjgaaGreat.sw k (idL n)]
theorem cv_at {n : Nat} {v : List Int} (hv : P5 n v) {k : Nat} (hk : k + 1 < n) : CvIs n v k := by
  have := all5_at cv_all hv.ok (by have := hv.len; have := hv.le; omega)
  simp only [cvB, List.all_eq_true, List.mem_range, Bool.and_eq_true, decide_eq_true_eq] at this
  obtain ⟨⟨⟨a, b⟩, c⟩, d⟩ := this k (by rw [hv.len]; omega)
  rw [hv.len] at d
  exact ⟨List.isPerm_iff.1 a, b, fun u hu => ⟨⟨(c u hu).1.1, by rw [(c u hu).1.2, hv.len], hv.le⟩, (c u hu).2⟩, d⟩

section
variable {n : Nat} {ys : List Int}
/-- the sum of the numbers up to k, as a permutation has them, less the numbers themselves -/
def xK (ys v : List Int) : Nat → Int
  | 0 => 0
  | i + 1 => xK ys v i + (yAt ys v i - ys.getD i 0)
theorem sumF_flat (F : List Int → Int) (g : Nat → List (List Int)) : ∀ m, sumF F ((List.range (m + 1)).flatMap g) = sumF F ((List.range m).flatMap g) + sumF F (g m) := fun m => by
  rw [List.range_succ, List.flatMap_append, sumF_append]
  simp
theorem chevK (hy : ys.length = n) (h1 : 1 ≤ n) {p v : List Int} (hp : P5 n p) (hv : P5 n v) : ∀ k, k < n →
    xK ys p (k + 1) * FW n ys v p = xK ys v (k + 1) * FW n ys v p + sumF (fun u => FW n ys u p) (upK v k) - sumF (fun u => FW n ys u p) (dnK v k)
  | 0, hk => by
    have h := chev hy h1 _ p rfl hp v 0 hv hk
    have e1 : upK v 0 = cvUp v 0 := by unfold upK; simp
    have e2 : dnK v 0 = cvDn v 0 := by unfold dnK; simp
    rw [e1, e2]
    simp only [xK]
    rw [show (0 + (yAt ys p 0 - ys.getD 0 0)) * FW n ys v p = yAt ys p 0 * FW n ys v p - ys.getD 0 0 * FW n ys v p by grind, h]
    grind
  | k + 1, hk => by
    have ih := chevK hy h1 hp hv k (by omega)
    have h := chev hy h1 _ p rfl hp v (k + 1) hv hk
    have e1 : sumF (fun u => FW n ys u p) (upK v (k + 1)) = sumF (fun u => FW n ys u p) (upK v k) + sumF (fun u => FW n ys u p) (cvUp v (k + 1)) := sumF_flat _ _ _
    have e2 : sumF (fun u => FW n ys u p) (dnK v (k + 1)) = sumF (fun u => FW n ys u p) (dnK v k) + sumF (fun u => FW n ys u p) (cvDn v (k + 1)) := sumF_flat _ _ _
    rw [e1, e2]
    show (xK ys p (k + 1) + (yAt ys p (k + 1) - ys.getD (k + 1) 0)) * FW n ys v p = (xK ys v (k + 1) + (yAt ys v (k + 1) - ys.getD (k + 1) 0)) * FW n ys v p + _ - _
    rw [show (xK ys p (k + 1) + (yAt ys p (k + 1) - ys.getD (k + 1) 0)) * FW n ys v p = xK ys p (k + 1) * FW n ys v p + (yAt ys p (k + 1) * FW n ys v p - ys.getD (k + 1) 0 * FW n ys v p) by grind, ih, h]
    grind
/-- the rule for the sums -/
theorem chevC (hy : ys.length = n) (h1 : 1 ≤ n) {p v : List Int} (hp : P5 n p) (hv : P5 n v) {k : Nat} (hk : k + 1 < n) :
    xK ys p (k + 1) * FW n ys v p = xK ys v (k + 1) * FW n ys v p + sumF (fun u => FW n ys u p) (cvK v k) := by
  have h := chevK hy h1 hp hv k (by omega)
  have hs := sumF_perm (fun u => FW n ys u p) (cv_at hv hk).perm
  rw [sumF_append] at hs
  omega
theorem FW_idL (hy : ys.length = n) (h1 : 1 ≤ n) (h5 : n ≤ 5) : ∀ (t : Nat) (p : List Int), lnN p = t → P5 n p → FW n ys (idL n) p = 1 := by
  have hi := P5.id h1 h5
  intro t
  induction t with
  | zero =>
    intro p ht hp
    rw [id_of_len hp ht, FW_id hy h1 hi, if_pos rfl]
  | succ t ih =>
    intro p ht hp
    obtain ⟨k, hk, hd⟩ : ∃ k, k + 1 < n ∧ ascB k p = false := ((blid_at hp).2).resolve_left (by omega)
    have hl := len_desc hp hk hd
    have ss : sw k (sw k p) = p := sw_sw (by have := hp.len; omega)
    have hr := FW_rec (ys := ys) hi (hp.sw hk) hk
    rw [ss] at hr
    have ha : ascB k (idL n) = true := by
      unfold ascB
      rw [idL_getD (by omega), idL_getD hk]
      exact decide_eq_true (by omega)
    rw [hr, ha, if_pos rfl, ih _ (by omega) (hp.sw hk)]; omega
theorem xK_id (ys : List Int) {n : Nat} : ∀ k, k ≤ n → xK ys (idL n) k = 0
  | 0, _ => rfl
  | k + 1, h => by
    rw [xK, xK_id ys k (by omega)]
    unfold yAt
    rw [idL_getD (by omega), Int.toNat_natCast]; omega
/-- the values of an exchange of neighbours -/
theorem FW_s (hy : ys.length = n) (h1 : 1 ≤ n) (h5 : n ≤ 5) {p : List Int} (hp : P5 n p) {k : Nat} (hk : k + 1 < n) : FW n ys (sw k (idL n)) p = xK ys p (k + 1) := by
  have hi := P5.id h1 h5
  have h := chevC hy h1 hp hi hk
  rw [(cv_at hi hk).id, FW_idL hy h1 h5 _ p rfl hp, xK_id ys (k + 1) (by omega), sumF_cons, sumF_nil] at h
  omega
/-- the numbers of the product -/
def chC (ys v : List Int) (k : Nat) (w : List Int) : Int := (if w = v then xK ys v (k + 1) else 0) + (((cvK v k).count w : Nat) : Int)
theorem chC_ex (hy : ys.length = n) (h1 : 1 ≤ n) (h4 : n ≤ 4) {v : List Int} (hv : P5 n v) {k : Nat} (hk : k + 1 < n) : Ex n ys (fun p => FW n ys (sw k (idL n)) p * FW n ys v p) (chC ys v k) := fun p hp => by
  have A := aL h1 h4
  have C := cv_at hv hk
  dsimp only
  rw [FW_s hy h1 (by omega) hp hk, chevC hy h1 hp hv hk, sumF_count _ A.nodup fun u hu => (A.mem u).2 (C.p5 u hu).1, ← sumF_delta (v := v) (fun w => xK ys v (k + 1) * FW n ys w p) A.nodup ((A.mem v).2 hv), ← sumF_add]
  refine sumF_congr fun w _ => ?_
  unfold chC
  by_cases e : w = v
  · rw [if_pos e, if_pos e, Int.add_mul]
  · rw [if_neg e, if_neg e, Int.zero_add, Int.zero_add]
theorem count_one : ∀ {l : List (List Int)} {a : List Int}, l.Nodup → a ∈ l → l.count a = 1
  | [], _, _, h => by cases h
  | x :: l, a, hn, h => by
    rw [List.nodup_cons] at hn
    rw [List.count_cons]
    by_cases e : x = a
    · rw [List.count_eq_zero_of_not_mem (by rw [← e]; exact hn.1), if_pos (by simpa using e)]
    · rw [count_one hn.2 ((List.mem_cons.1 h).resolve_left fun e2 => e e2.symm), if_neg (by simpa using e)]
theorem chC_at {v : List Int} (hv : P5 n v) {k : Nat} (hk : k + 1 < n) : chC ys v k v = xK ys v (k + 1) ∧ ∀ w ∈ cvK v k, chC ys v k w = 1 := by
  have C := cv_at hv hk
  refine ⟨?_, fun w hw => ?_⟩
  · unfold chC
    rw [if_pos rfl, List.count_eq_zero_of_not_mem fun h => (C.p5 v h).2 rfl]; simp
  · unfold chC
    rw [if_neg (C.p5 w hw).2, count_one C.nodup hw]; rfl
end

end Go.Proofs.YtgebjjpcgakjgaaGreat

namespace Go.Proofs.YtgebjjpcgakjgaaGreat
set_option linter.all false
set_option maxRecDepth 100000
open Go.RowKit

/-- the number of a class, 0 where there is none -/
def inC : List Cls → List Int → Int
  | [], _ => 0
  | c :: cs, t => if c.1 = t then c.2 else inC cs t
theorem inC_not : ∀ {cs : List Cls} {t : List Int}, t ∉ cs.map (·.1) → inC cs t = 0
  | [], _, _ => rfl
  | c :: cs, t, h => by
    rw [List.map_cons, List.mem_cons] at h
    rw [inC, if_neg fun e => h (.inl e.symm)]
    exact inC_not fun e => h (.inr e)
theorem inC_mem : ∀ {cs : List Cls} {t : List Int} {m : Int}, (cs.map (·.1)).Nodup → (t, m) ∈ cs → inC cs t = m
  | [], _, _, _, h => by cases h
  | c :: cs, t, m, hn, h => by
    rw [List.map_cons, List.nodup_cons] at hn
    rw [inC]
    rcases List.mem_cons.1 h with h | h
    · rw [← h, if_pos rfl]
    · rw [if_neg fun e => hn.1 (by rw [e]; exact List.mem_map.2 ⟨_, h, rfl⟩)]
      exact inC_mem hn.2 h
section
variable {n : Nat} {ys : List Int}
theorem sumC_nodup (h1 : 1 ≤ n) (h4 : n ≤ 4) (c : List Int → Int) : ((sumC n c).map (·.1)).Nodup := by
  have OI := ordIs h1 h4
  unfold sumC
  refine (List.Perm.nodup_iff ((srtC_perm _).map _)).2 ?_
  rw [List.map_map]
  have hs : ((ordL n).map fun x => trimL (pmA n x)).Nodup := (List.Perm.nodup_iff (OI.perm.map _)).2 (trim_nodup h1 h4)
  exact List.Nodup.sublist (List.Sublist.map _ List.filter_sublist) hs
theorem trim_inj (h1 : 1 ≤ n) (h4 : n ≤ 4) {u w : List Int} (hu : P5 n u) (hw : P5 n w) (h : trimL u = trimL w) : u = w := by
  obtain ⟨x, hx, ex⟩ := pm_mem h1 h4 hu
  obtain ⟨y, hy, ey⟩ := pm_mem h1 h4 hw
  have hn := List.pairwise_iff_getElem.1 (trim_nodup h1 h4)
  have key : ∀ a b, a < b → b < fact n → trimL (pmA n a) ≠ trimL (pmA n b) := fun a b hab hb => by
    have := hn a b (by simp; omega) (by simp; omega) hab
    simpa using this
  rw [← ex, ← ey] at h ⊢
  rcases Nat.lt_trichotomy x y with hxy | hxy | hxy
  · exact absurd h (key x y hxy hy)
  · rw [hxy]
  · exact absurd h.symm (key y x hxy hx)
/-- the number behind a permutation is found -/
theorem sumC_in (h1 : 1 ≤ n) (h4 : n ≤ 4) (c : List Int → Int) {w : List Int} (hw : P5 n w) : inC (sumC n c) (trimL w) = c w := by
  have OI := ordIs h1 h4
  obtain ⟨x, hx, e⟩ := pm_mem h1 h4 hw
  by_cases h0 : c w = 0
  · rw [h0]
    refine inC_not fun hm => ?_
    obtain ⟨q, hq, e1⟩ := List.mem_map.1 hm
    have hq' := (srtC_perm _).mem_iff.1 hq
    obtain ⟨y, hy, e2⟩ := List.mem_map.1 hq'
    obtain ⟨hyo, hyc⟩ := List.mem_filter.1 hy
    have hyF : y < fact n := by simpa using OI.perm.mem_iff.1 hyo
    rw [← e2] at e1
    have := trim_inj h1 h4 (prm_p5 h1 (by omega) hyF) hw e1
    rw [show pmA n y = w from this, h0] at hyc
    simp at hyc
  · refine inC_mem (sumC_nodup h1 h4 c) ((srtC_perm _).mem_iff.2 (List.mem_map.2 ⟨x, List.mem_filter.2 ⟨OI.perm.mem_iff.2 (by simpa using hx), by rw [e]; simpa using h0⟩, by rw [e]⟩))
theorem len_filter : ∀ (L : List (List Int)) (q : List Int → Bool), ((L.filter q).length : Int) = sumF (fun w => if q w then 1 else 0) L
  | [], _ => rfl
  | x :: L, q => by
    rw [sumF_cons, ← len_filter L q]
    cases h : q x with
    | true => rw [List.filter_cons_of_pos h]; simp; omega
    | false => rw [List.filter_cons_of_neg (by rw [h]; decide)]; simp
theorem sumF_ones : ∀ L : List (List Int), sumF (fun _ => 1) L = (L.length : Int)
  | [] => rfl
  | x :: L => by rw [sumF_cons, sumF_ones L]; simp; omega
theorem perms_map (n : Nat) : (List.range (fact n)).map (pmA n) = permsL n := by
  apply List.ext_getElem?
  intro i
  rw [List.getElem?_map]
  by_cases hi : i < fact n
  · rw [List.getElem?_range hi, Option.map_some]
    unfold pmA
    rw [List.getD_eq_getElem?_getD, List.getElem?_eq_getElem (by rw [permsL_length]; exact hi)]; rfl
  · rw [List.getElem?_eq_none (by simp; omega), List.getElem?_eq_none (by rw [permsL_length]; omega)]; rfl
theorem sumC_len (h1 : 1 ≤ n) (h4 : n ≤ 4) (c : List Int → Int) : ((sumC n c).length : Int) = sumF (fun w => if c w = 0 then 0 else 1) (permsL n) := by
  have OI := ordIs h1 h4
  unfold sumC
  rw [(srtC_perm _).length_eq, List.length_map, (OI.perm.filter _).length_eq]
  have e : ((List.range (fact n)).filter fun x => !decide (c (pmA n x) = 0)).length = ((permsL n).filter fun w => !decide (c w = 0)).length := by
    rw [← perms_map n, List.filter_map, List.length_map]; rfl
  rw [e, len_filter]
  refine sumF_congr fun w _ => ?_
  by_cases h : c w = 0 <;> simp [h]
/-- how many classes the product with an exchange has -/
theorem chC_len (h1 : 1 ≤ n) (h4 : n ≤ 4) {v : List Int} (hv : P5 n v) {k : Nat} (hk : k + 1 < n) : ((sumC n (chC ys v k)).length : Int) = (if xK ys v (k + 1) = 0 then 0 else 1) + ((cvK v k).length : Int) := by
  have A := aL h1 h4
  have C := cv_at hv hk
  rw [sumC_len h1 h4, ← sumF_ones (cvK v k), sumF_count (fun _ => 1) A.nodup fun u hu => (A.mem u).2 (C.p5 u hu).1,
    ← sumF_delta (v := v) (fun _ => if xK ys v (k + 1) = 0 then (0 : Int) else 1) A.nodup ((A.mem v).2 hv), ← sumF_add]
  refine sumF_congr fun w _ => ?_
  by_cases e : w = v
  · have hc0 : (cvK v k).count w = 0 := by rw [e]; exact List.count_eq_zero_of_not_mem fun h => (C.p5 v h).2 rfl
    rw [if_pos e, hc0]
    rw [e, (chC_at (ys := ys) hv hk).1]
    simp
  · rw [if_neg e]
    by_cases hm : w ∈ cvK v k
    · rw [count_one C.nodup hm, (chC_at (ys := ys) hv hk).2 w hm]; simp
    · rw [List.count_eq_zero_of_not_mem hm]
      have : chC ys v k w = 0 := by unfold chC; rw [if_neg e, List.count_eq_zero_of_not_mem hm]; rfl
      rw [this]; simp
end

end Go.Proofs.YtgebjjpcgakjgaaGreat

namespace Go.Proofs.YtgebjjpcgakjgaaGreat
set_option linter.all false
set_option maxRecDepth 100000
open Go.RowKit

def shapeL (k n : Nat) (t : List Int) : List Int := shL ((List.range k).map fun (i : Nat) => (growL t n).getD (k - 1 - i) 0 - ((k - 1 - i : Nat) : Int))
def impP (k n : Nat) (L : List Cls) : List Cls := (ishs k (n - k)).flatMap fun sh => (L.filter fun x => decide (x.1 = trimL (gpW sh k n))).map fun x => (sh, x.2)
structure ShpL (k n : Nat) (L P : List Cls) : Prop where
  mem : ∀ x ∈ L, ∃ sh ∈ ishs k (n - k), x.1 = trimL (gpW sh k n) ∧ x.2 ≠ 0
  imp : impP k n L = P
  spc : srtC (L.map fun x => (shapeL k n x.1, x.2)) = P
  nodup : (L.map fun x => shapeL k n x.1).Nodup
  len : L.length ≤ 6
  plen : P.length ≤ 6
  pmem : ∀ x ∈ P, x.1.length ≤ 4

theorem filter_oneL : ∀ (l : List (List Int)) (x : List Int), l.Nodup → x ∈ l → (l.filter fun y => decide (y = x)) = [x]
  | [], _, _, h => by cases h
  | y :: l, x, hn, h => by
    rw [List.nodup_cons] at hn
    by_cases e : y = x
    · rw [List.filter_cons_of_pos (by simpa using e), e]
      congr 1
      rw [List.filter_eq_nil_iff]
      intro z hz
      simp only [decide_eq_true_eq]
      exact fun e2 => hn.1 (by rw [e, ← e2]; exact hz)
    · rw [List.filter_cons_of_neg (by simpa using e)]
      exact filter_oneL l x hn.2 ((List.mem_cons.1 h).resolve_left fun e2 => e e2.symm)
theorem flatMap_if (q : List Int → Bool) (f : List Int → Cls) : ∀ G : List (List Int), (G.flatMap fun sh => if q sh then [f sh] else []) = (G.filter q).map f
  | [] => rfl
  | sh :: G => by
    rw [List.flatMap_cons, flatMap_if q f G]
    cases h : q sh with
    | true => rw [List.filter_cons_of_pos h]; simp
    | false => rw [List.filter_cons_of_neg (by rw [h]; decide)]; simp

section
variable {n : Nat} {ys : List Int}
/-- where both factors ascend the product has no number at one that descends -/
theorem c_zero (hy : YOk n ys) {u v : List Int} (hu : P5 n u) (hv : P5 n v) {c : List Int → Int} (h : Ex n ys (fun p => FW n ys u p * FW n ys v p) c) {j : Nat} (hj : j + 1 < n) (au : ascB j u = true) (av : ascB j v = true)
    {w : List Int} (hw : P5 n w) (aw : ascB j w = false) : c w = 0 := by
  have h0 : Ex n ys (fun _ => 0) (dnC j c) := fun p hp => by
    have hd := h.down hy.one hy.four hj hp
    have e : ∀ x, P5 n x → ascB j x = true → FW n ys x (sw j p) = FW n ys x p := fun x hx ax => by rw [FW_rec hx hp hj, ax]; simp
    rw [e u hu au, e v hv av, Int.sub_self] at hd
    exact ((Int.mul_eq_zero.1 hd.symm).resolve_left (df_ne hy.dst hp hj)).symm
  have h1 := h0.nil hy.len hy.one hy.four hy.dst _ (sw j w) rfl (hw.sw hj)
  unfold dnC at h1
  rw [(hw.desc hj aw).2, if_pos rfl, sw_sw (by have := hw.len; omega)] at h1
  exact h1
theorem gp_asc {k : Nat} (S : ShpIs n k) {sh : List Int} (hs : sh ∈ ishs k (n - k)) {j : Nat} (hj : j + 1 < n) (hk : j + 1 ≠ k) : ascB j (gpW sh k n) = true := by
  have hm : gpW sh k n ∈ (permsL n).filter (grB k n) := S.perm.mem_iff.2 (List.mem_map.2 ⟨sh, hs, rfl⟩)
  have hg := (List.mem_filter.1 hm).2
  unfold grB at hg
  rw [List.all_eq_true] at hg
  have := hg j (by simp; omega)
  simpa [hk] using this
theorem c_gr (hy : YOk n ys) {k : Nat} (S : ShpIs n k) {a b : List Int} (ha : a ∈ ishs k (n - k)) (hb : b ∈ ishs k (n - k)) {c : List Int → Int} (h : Ex n ys (fun p => FW n ys (gpW a k n) p * FW n ys (gpW b k n) p) c)
    {w : List Int} (hw : P5 n w) (hg : grB k n w = false) : c w = 0 := by
  unfold grB at hg
  rw [List.all_eq_false] at hg
  obtain ⟨j, hj, hn⟩ := hg
  have hj' : j + 1 < n := by have := List.mem_range.1 hj; omega
  simp only [Bool.or_eq_true, decide_eq_true_eq, not_or] at hn
  have hn2 : ascB j w = false := by cases e : ascB j w with
    | true => exact absurd e hn.2
    | false => rfl
  exact c_zero hy (S.p5 a ha) (S.p5 b hb) h hj' (gp_asc S ha hj' hn.1) (gp_asc S hb hj' hn.1) hw hn2
theorem gp_inj {k : Nat} (S : ShpIs n k) {s t : List Int} (hs : s ∈ ishs k (n - k)) (ht : t ∈ ishs k (n - k)) (e : gpW s k n = gpW t k n) : s = t := by
  rw [← S.back s hs, e, S.back t ht]
theorem shape_back {k : Nat} (S : ShpIs n k) {s : List Int} (hs : s ∈ ishs k (n - k)) : shapeL k n (trimL (gpW s k n)) = s := by
  unfold shapeL
  rw [S.grow s hs, S.back s hs]
/-- the classes of such a product, as they come from the shapes -/
theorem sum_shapes (hy : YOk n ys) {k : Nat} (S : ShpIs n k) {c : List Int → Int} (hc : ∀ w, P5 n w → grB k n w = false → c w = 0) :
    (sumC n c).Perm (((ishs k (n - k)).filter fun sh => !decide (c (gpW sh k n) = 0)).map fun sh => (trimL (gpW sh k n), c (gpW sh k n))) := by
  have OI := ordIs hy.one hy.four
  have A := aL hy.one hy.four
  have p1 : (sumC n c).Perm (((List.range (fact n)).filter fun x => !decide (c (pmA n x) = 0)).map fun x => (trimL (pmA n x), c (pmA n x))) := by
    unfold sumC
    exact (srtC_perm _).trans ((OI.perm.filter _).map _)
  have e2 : (((List.range (fact n)).filter fun x => !decide (c (pmA n x) = 0)).map fun x => (trimL (pmA n x), c (pmA n x))) = ((permsL n).filter fun w => !decide (c w = 0)).map fun w => (trimL w, c w) := by
    rw [← perms_map n, List.filter_map, List.map_map]; rfl
  have e3 : ((permsL n).filter fun w => !decide (c w = 0)) = ((permsL n).filter (grB k n)).filter fun w => !decide (c w = 0) := by
    rw [List.filter_filter]
    refine List.filter_congr fun w hw => ?_
    cases hg : grB k n w with
    | true => simp
    | false => simp [hc w ((A.mem w).1 hw) hg]
  have p4 : (((permsL n).filter (grB k n)).filter fun w => !decide (c w = 0)).Perm (((ishs k (n - k)).filter fun sh => !decide (c (gpW sh k n) = 0)).map fun sh => gpW sh k n) := by
    have := S.perm.filter fun w => !decide (c w = 0)
    rw [List.filter_map] at this
    exact this
  rw [e2, e3] at p1
  have := p4.map fun w => (trimL w, c w)
  rw [List.map_map] at this
  exact p1.trans this
theorem shp_sum (hy : YOk n ys) {k : Nat} (S : ShpIs n k) {c : List Int → Int} (hc : ∀ w, P5 n w → grB k n w = false → c w = 0) : ∃ P, ShpL k n (sumC n c) P := by
  obtain ⟨G, hG⟩ : ∃ G, G = ishs k (n - k) := ⟨_, rfl⟩
  obtain ⟨q, hq⟩ : ∃ q : List Int → Bool, q = fun sh => !decide (c (gpW sh k n) = 0) := ⟨_, rfl⟩
  have hp := sum_shapes hy S hc
  rw [← hq] at hp
  have hnd : (ishs k (n - k)).Nodup := S.asc.imp fun {a b} h e => by rw [e, ltB_irrefl] at h; cases h
  have hkey : (((ishs k (n - k)).filter q).map fun sh => ((trimL (gpW sh k n), c (gpW sh k n)) : Cls)).map (fun x => ((shapeL k n x.1, x.2) : Cls)) = ((ishs k (n - k)).filter q).map fun sh => (sh, c (gpW sh k n)) := by
    rw [List.map_map]
    refine List.map_congr_left fun sh hs => ?_
    have := (List.mem_filter.1 hs).1
    show (shapeL k n (trimL (gpW sh k n)), c (gpW sh k n)) = _
    rw [shape_back S this]
  have hperm2 : ((sumC n c).map fun x => ((shapeL k n x.1, x.2) : Cls)).Perm (((ishs k (n - k)).filter q).map fun sh => (sh, c (gpW sh k n))) := by
    rw [← hkey]
    exact hp.map _
  have hk1 : (((ishs k (n - k)).filter q).map fun sh => ((sh, c (gpW sh k n)) : Cls)).map (·.1) = (ishs k (n - k)).filter q := by
    rw [List.map_map]
    exact List.map_id _
  have hnq : ((ishs k (n - k)).filter q).Nodup := hnd.sublist List.filter_sublist
  have hlenq : ((ishs k (n - k)).filter q).length ≤ 6 := Nat.le_trans (List.length_filter_le _ _) S.six
  refine ⟨((ishs k (n - k)).filter q).map fun sh => (sh, c (gpW sh k n)), ⟨fun x hx => ?_, ?_, ?_, ?_, ?_, ?_, fun x hx => ?_⟩⟩
  · obtain ⟨sh, hs, e⟩ := List.mem_map.1 (hp.mem_iff.1 hx)
    obtain ⟨h1, h2⟩ := List.mem_filter.1 hs
    refine ⟨sh, h1, by rw [← e], ?_⟩
    rw [← e]
    rw [hq] at h2
    simpa using h2
  · have hone : ∀ sh ∈ ishs k (n - k), ((sumC n c).filter fun x => decide (x.1 = trimL (gpW sh k n))) = if q sh then [(trimL (gpW sh k n), c (gpW sh k n))] else [] := fun sh hs => by
      have h1 := hp.filter fun x => decide (x.1 = trimL (gpW sh k n))
      rw [List.filter_map, List.filter_filter] at h1
      have h2 : ((ishs k (n - k)).filter fun a => ((fun x : Cls => decide (x.1 = trimL (gpW sh k n))) ∘ fun sh => (trimL (gpW sh k n), c (gpW sh k n))) a && q a) = ((ishs k (n - k)).filter fun y => decide (y = sh)).filter q := by
        rw [List.filter_filter]
        refine List.filter_congr fun s hss => ?_
        by_cases e : s = sh
        · rw [e]; simp
        · have : ¬ trimL (gpW s k n) = trimL (gpW sh k n) := fun h => e (gp_inj S hss hs (trim_inj hy.one hy.four (S.p5 s hss) (S.p5 sh hs) h))
          simp [e, this]
      rw [h2, filter_oneL _ sh hnd hs] at h1
      cases hqs : q sh with
      | true =>
        rw [List.filter_cons_of_pos hqs] at h1
        simp only [List.filter_nil, List.map_cons, List.map_nil] at h1
        rw [List.perm_singleton.1 h1]; rfl
      | false =>
        rw [List.filter_cons_of_neg (by rw [hqs]; decide)] at h1
        simp only [List.filter_nil, List.map_nil] at h1
        rw [List.perm_nil.1 h1]; rfl
    unfold impP
    rw [← flatMap_if q (fun sh => (sh, c (gpW sh k n)))]
    have fm : ∀ G : List (List Int), (∀ sh ∈ G, sh ∈ ishs k (n - k)) → (G.flatMap fun sh => ((sumC n c).filter fun x => decide (x.1 = trimL (gpW sh k n))).map fun x => ((sh, x.2) : Cls)) = G.flatMap fun sh => if q sh then [(sh, c (gpW sh k n))] else [] := fun G => by
      induction G with
      | nil => exact fun _ => rfl
      | cons sh G ih =>
        intro h
        rw [List.flatMap_cons, List.flatMap_cons, ih fun s hs => h s (List.mem_cons_of_mem _ hs), hone sh (h sh List.mem_cons_self)]
        cases q sh <;> rfl
    exact fm _ fun _ h => h
  · refine (srtC_eq ?_ hperm2.symm ?_).symm
    · refine (List.Perm.nodup_iff (hperm2.map (·.1))).2 ?_
      rw [hk1]; exact hnq
    · refine List.Pairwise.map _ (fun {a b} h => ?_) (S.asc.sublist (List.filter_sublist (p := q)))
      exact ltB_asym h
  · have := (List.Perm.nodup_iff (hperm2.map (·.1))).2 (by rw [hk1]; exact hnq)
    rw [List.map_map] at this
    exact this
  · rw [hp.length_eq, List.length_map]; exact hlenq
  · rw [List.length_map]; exact hlenq
  · obtain ⟨sh, hs, e⟩ := List.mem_map.1 hx
    rw [← e]
    exact S.short sh (List.mem_filter.1 hs).1
/-- what EquivariantProduct gives for two shapes -/
theorem shp_eq (hy : YOk n ys) {k : Nat} (hk : k ≤ n) {a b : List Int} (ha : bxOk a k n = true) (hb : bxOk b k n = true) : ∃ L P, eqL (gpW a k n) (gpW b k n) ys = (L, true) ∧ ShpL k n L P := by
  have S := shpIs hy.one hy.four hk
  have ma := bx_mem ha hk
  have mb := bx_mem hb hk
  have pa := S.p5 a ma
  have pb := S.p5 b mb
  obtain ⟨c, hc, _, hE⟩ := expE_prod hy pa pb
  obtain ⟨P, hP⟩ := shp_sum hy S (c := c) fun w hw hg => c_gr hy S ma mb hc hw hg
  refine ⟨sumC n c, P, ?_, hP⟩
  have hok : eqOk (gpW a k n) (gpW b k n) ys = true := by
    unfold eqOk
    rw [pa.ok, pb.ok, pa.len, pb.len, hy.ap]; simp
  rw [eqL_yes hok, pa.len, hE]
end

end Go.Proofs.YtgebjjpcgakjgaaGreat

namespace Go.Proofs.YtgebjjpcgakjgaaGreat
set_option linter.all false
set_option maxRecDepth 100000
open Go.RowKit

/-! ### polynomials in three differences -/
abbrev Mo := Nat × Nat × Nat
abbrev PA := List (Mo × Int)
def moMul (a b : Mo) : Mo := (a.1 + b.1, a.2.1 + b.2.1, a.2.2 + b.2.2)
def moEq (a b : Mo) : Bool := Nat.beq a.1 b.1 && Nat.beq a.2.1 b.2.1 && Nat.beq a.2.2 b.2.2
def al (ys : List Int) (t : Nat) : Int := ys.getD (t + 1) 0 - ys.getD t 0
def moV (ys : List Int) (a : Mo) : Int := al ys 0 ^ a.1 * al ys 1 ^ a.2.1 * al ys 2 ^ a.2.2
def evA (ys : List Int) : PA → Int
  | [] => 0
  | t :: P => t.2 * moV ys t.1 + evA ys P
theorem moEq_eq {a b : Mo} (h : moEq a b = true) : a = b := by
  unfold moEq at h
  rw [Bool.and_eq_true, Bool.and_eq_true] at h
  obtain ⟨⟨h1, h2⟩, h3⟩ := h
  obtain ⟨a0, a1, a2⟩ := a
  obtain ⟨b0, b1, b2⟩ := b
  have e1 := Nat.eq_of_beq_eq_true h1
  have e2 := Nat.eq_of_beq_eq_true h2
  have e3 := Nat.eq_of_beq_eq_true h3
  dsimp only at e1 e2 e3
  rw [e1, e2, e3]
theorem moV_mul (ys : List Int) (a b : Mo) : moV ys (moMul a b) = moV ys a * moV ys b := by
  unfold moV moMul
  simp only [Int.pow_add]
  grind
theorem evA_append (ys : List Int) : ∀ P Q : PA, evA ys (P ++ Q) = evA ys P + evA ys Q
  | [], Q => by simp [evA]
  | t :: P, Q => by rw [List.cons_append, evA, evA, evA_append ys P Q]; omega
/-- a monomial added to a list without repetitions -/
def addA (t : Mo × Int) : PA → PA
  | [] => [t]
  | s :: P => if moEq s.1 t.1 then (s.1, s.2 + t.2) :: P else s :: addA t P
theorem evA_add (ys : List Int) (t : Mo × Int) : ∀ P : PA, evA ys (addA t P) = t.2 * moV ys t.1 + evA ys P
  | [] => by simp [addA, evA]
  | s :: P => by
    unfold addA
    cases h : moEq s.1 t.1 with
    | true =>
      rw [if_pos rfl, evA, evA, moEq_eq h]
      dsimp only
      rw [Int.add_mul]
      omega
    | false =>
      rw [if_neg (by decide), evA, evA, evA_add ys t P]
      omega
def sumA (P Q : PA) : PA := P.foldl (fun acc t => addA t acc) Q
theorem evA_sum (ys : List Int) : ∀ P Q : PA, evA ys (sumA P Q) = evA ys P + evA ys Q
  | [], Q => by simp [sumA, evA]
  | t :: P, Q => by
    show evA ys (sumA P (addA t Q)) = _
    rw [evA_sum ys P, evA_add, evA]
    omega
def mulM (t : Mo × Int) (Q : PA) : PA := Q.map fun s => (moMul t.1 s.1, t.2 * s.2)
theorem evA_mulM (ys : List Int) (t : Mo × Int) : ∀ Q : PA, evA ys (mulM t Q) = t.2 * moV ys t.1 * evA ys Q
  | [] => by simp [mulM, evA]
  | s :: Q => by
    have ih := evA_mulM ys t Q
    show (t.2 * s.2) * moV ys (moMul t.1 s.1) + evA ys (mulM t Q) = _
    rw [ih, moV_mul, evA]
    grind
/-- P times Q, added to R -/
def mulA (P Q R : PA) : PA := P.foldl (fun acc t => sumA (mulM t Q) acc) R
theorem evA_mul (ys : List Int) (Q : PA) : ∀ P R : PA, evA ys (mulA P Q R) = evA ys P * evA ys Q + evA ys R
  | [], R => by simp [mulA, evA]
  | t :: P, R => by
    show evA ys (mulA P Q (sumA (mulM t Q) R)) = _
    rw [evA_mul ys Q P, evA_sum, evA_mulM, evA]
    grind
def negA (P : PA) : PA := P.map fun t => (t.1, -t.2)
theorem evA_neg (ys : List Int) : ∀ P : PA, evA ys (negA P) = -(evA ys P)
  | [] => by simp [negA, evA]
  | t :: P => by
    have ih := evA_neg ys P
    show -t.2 * moV ys t.1 + evA ys (negA P) = _
    rw [ih, evA, Int.neg_mul]
    omega
/-- nothing is left -/
def nulA (P : PA) : Bool := P.all fun t => t.2 == 0
theorem evA_nul (ys : List Int) : ∀ P : PA, nulA P = true → evA ys P = 0
  | [], _ => rfl
  | t :: P, h => by
    unfold nulA at h
    rw [List.all_cons, Bool.and_eq_true] at h
    have e : t.2 = 0 := by simpa using h.1
    rw [evA, e, evA_nul ys P h.2]
    simp
def oneA : PA := [((0, 0, 0), 1)]
theorem evA_one (ys : List Int) : evA ys oneA = 1 := by simp [oneA, evA, moV]
def varA (t : Nat) (c : Int) : Mo × Int := (if t = 0 then (1, 0, 0) else if t = 1 then (0, 1, 0) else (0, 0, 1), c)
/-- y_j - y_i -/
def difA (i j : Nat) : PA := if i < j then (List.range (j - i)).map fun t => varA (i + t) 1 else (List.range (i - j)).map fun t => varA (j + t) (-1)
theorem difA_ev (ys : List Int) : ∀ i j : Nat, i < 4 → j < 4 → evA ys (difA i j) = ys.getD j 0 - ys.getD i 0 := fun i j hi hj => by
  have h1 : i = 0 ∨ i = 1 ∨ i = 2 ∨ i = 3 := by omega
  have h2 : j = 0 ∨ j = 1 ∨ j = 2 ∨ j = 3 := by omega
  rcases h1 with rfl | rfl | rfl | rfl <;> rcases h2 with rfl | rfl | rfl | rfl <;> simp [difA, varA, evA, moV, al, List.range_succ, Int.pow_succ] <;> omega

/-! ### the values at permutations, as polynomials -/
def sumSA (v : List Int) : List Nat → List Int → List Int → PA
  | [], _, h => if h = v then oneA else []
  | k :: r, u, h => if ascB k h then mulA (difA (u.getD k 0).toNat (u.getD (k + 1) 0).toNat) (sumSA v r (sw k u) (sw k h)) (sumSA v r (sw k u) h) else sumSA v r (sw k u) h
def Let4 (n : Nat) (u : List Int) : Prop := u.length = n ∧ ∀ i, i < n → 0 ≤ u.getD i 0 ∧ u.getD i 0 < 4
theorem Let4.sw {n k : Nat} {u : List Int} (h : Let4 n u) (hk : k + 1 < n) : Let4 n (sw k u) := by
  refine ⟨by rw [sw_length]; exact h.1, fun i hi => ?_⟩
  rw [sw_getD (by rw [h.1]; exact hk)]
  split
  · exact h.2 k (by omega)
  · split
    · exact h.2 (k + 1) hk
    · exact h.2 i hi
theorem sumSA_ev {n : Nat} (ys v : List Int) : ∀ (r : List Nat) (u h : List Int), Let4 n u → (∀ j ∈ r, j + 1 < n) → evA ys (sumSA v r u h) = sumS v ys r u h
  | [], u, h, _, _ => by
    unfold sumSA sumS
    split
    · exact evA_one ys
    · rfl
  | k :: r, u, h, hu, hr => by
    have hk : k + 1 < n := hr k List.mem_cons_self
    have hr' : ∀ j ∈ r, j + 1 < n := fun j hj => hr j (List.mem_cons_of_mem _ hj)
    have i1 := sumSA_ev ys v r (Go.Proofs.YtgebjjpcgakjgaaGreat.sw k u) h (hu.sw hk) hr'
    have i2 := sumSA_ev ys v r (Go.Proofs.YtgebjjpcgakjgaaGreat.sw k u) (Go.Proofs.YtgebjjpcgakjgaaGreat.sw k h) (hu.sw hk) hr'
    unfold sumSA sumS
    cases ascB k h with
    | true =>
      have a := hu.2 k (by omega)
      have b := hu.2 (k + 1) hk
      rw [if_pos rfl, if_pos rfl, evA_mul, i1, i2, difA_ev ys _ _ (by omega) (by omega)]
      omega
    | false =>
      rw [if_neg (by decide), if_neg (by decide), i1]
      omega
def fwA (n : Nat) (v p : List Int) : PA := sumSA v (fstL p) (idL n) (idL n)
theorem id_let4 : ∀ n : Fin 5, Let4 n.val (idL n.val) := by
  intro n
  refine ⟨by unfold idL; simp, fun i hi => ?_⟩
  have : ∀ n : Fin 5, ∀ i : Fin 4, i.val < n.val → 0 ≤ (idL n.val).getD i.val 0 ∧ (idL n.val).getD i.val 0 < 4 := by decide
  exact this n ⟨i, by omega⟩ hi
theorem fwA_ev {n : Nat} {ys v p : List Int} (hv : P5 n v) (hp : P5 n p) (hy : ys.length = n) (h1 : 1 ≤ n) (h4 : n ≤ 4) : evA ys (fwA n v p) = FW n ys v p := by
  have h := wrd_at hp
  unfold fwA
  rw [sumSA_ev (n := n) ys v _ _ _ (id_let4 ⟨n, by omega⟩) h.2.1]
  have := sum_val hy h1 hp.le _ (fstL p) v rfl hv h.2.1
  rw [h.1] at this
  exact this.symm

end Go.Proofs.YtgebjjpcgakjgaaGreat
