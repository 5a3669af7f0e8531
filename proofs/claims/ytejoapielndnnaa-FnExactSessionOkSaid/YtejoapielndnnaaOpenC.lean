/-
  What classes and sessions that came in look like.
-/
import Derived.Test.YtejoapielndnnaaOpen2
import Derived.Test.YtejoapielndnnaaCls
import Derived.Deep.SlicePairs
import Derived.Deep.Fields
namespace Go.Proofs.Ytejoapielndnnaa
set_option linter.all false
open Go.ChangeShapes Go.WideShapes Go.RowKit Go.Deep Go.WideElems Go.Maps

theorem trod_cls {H : Type} {enc : TypeId × Value → H} {P : Program} {W : World} {n : Nat} {t e ti : TypeId} {f0 f1 : Field} {v : Value} {y : DataW H × List MemPlace}
    (ht : P.underlying t = some (.slice e)) (he : P.underlying e = some (.struct #[f0, f1])) (ce : P.cellsOf e = 2) (o0 : f0.offset = 0) (o1 : f1.offset = 1) (c0 : P.cellsOf f0.type = 1) (c1 : P.cellsOf f1.type = 1)
    (h0 : P.underlying f0.type = some (.slice ti)) (hi : P.underlying ti = some (.int .i64)) (hc : P.cellsOf ti = 1) (h1 : P.underlying f1.type = some (.int .i64))
    (h : DataW.trod enc P W 0 (fun _ => true) true n t [v] = some y) : ∃ cs, RdClA W v cs := by
  rcases open_slice_pairs ht he ce o0 o1 c0 c1 h with ⟨hcs, _⟩ | ⟨a, len, cap, m, k, V0, V1, D0, D1, P0, P1, hcs, _, hl, hm, hmm, _, hx⟩
  · obtain rfl : v = .slice none 0 0 := by simpa using hcs
    exact ⟨[], none, 0, fun _ => undef, rfl, ⟨Nat.le_refl _, Nat.zero_le _⟩, fun h => absurd h (by simp), fun i hi => absurd hi (by simp)⟩
  · obtain rfl : v = .slice (some a) len cap := by simpa using hcs
    have hlm : len ≤ m := by rw [hmm]; simp; exact hl
    have hX : ∀ i, ∃ q : List Int × Int, i < len → Ints W (V0 i) q.1 ∧ V1 i = .int .i64 q.2 := fun i => by
      by_cases hi : i < len
      · obtain ⟨_, _, g0, g1⟩ := hx i (by omega)
        obtain ⟨X, hX⟩ := trod_ints h0 ‹_› hc g0
        obtain ⟨c, e1, _, _⟩ := DataW.trod_int h1 g1
        exact ⟨(X, c), fun _ => ⟨hX, by simpa using e1⟩⟩
      · exact ⟨([], 0), fun h => absurd h hi⟩
    obtain ⟨q, hq⟩ := Classical.axiomOfChoice hX
    have hget : ∀ i, i < len → ((List.range len).map q).getD i clD = q i := fun i hi => by simp [List.getD_eq_getElem?_getD, hi]
    refine ⟨(List.range len).map q, some a, cap, V0, by simp, ⟨by simpa using hl, hm⟩, fun hp => ?_, fun i hi => ?_⟩
    · have hp' : 0 < len := by simpa using hp
      have h5 := (hx 0 (by omega)).1
      obtain ⟨b, off, spot⟩ := a
      have hs : spot = none := by
        cases spot with
        | none => rfl
        | some s => simp [Addr.add, World.cell?] at h5; split at h5 <;> simp_all
      subst hs
      refine ⟨b, off, rfl, fun i hi => ?_⟩
      have hi' : i < len := by simpa using hi
      have hadd : ∀ j, (⟨b, off, none⟩ : Addr).add j = ⟨b, off + j, none⟩ := fun j => by unfold Addr.add; split <;> simp_all
      obtain ⟨g0, g1, _, _⟩ := hx i (by omega)
      rw [hadd] at g0 g1
      rw [hget i hi']
      exact ⟨g0, by rw [Nat.add_assoc, g1, (hq i hi').2]⟩
    · have hi' : i < len := by simpa using hi
      rw [hget i hi']
      exact (hq i hi').1

theorem trod_sess {H : Type} {enc : TypeId × Value → H} {P : Program} {W : World} {b0 : Nat} {t ti tc : TypeId} {f0 f1 f2 f3 f4 g0 g1 : Field} {v : Value} {d : DataW H} {p : List MemPlace}
    (hs : P.underlying t = some (.struct #[f0, f1, f2, f3, f4])) (hone : oneCellFields P #[f0, f1, f2, f3, f4] = true) (hC : P.cellsOf t = 5)
    (h0 : P.underlying f0.type = some (.slice ti)) (h1 : P.underlying f1.type = some (.slice tc)) (h2 : P.underlying f2.type = some (.slice ti)) (h3 : P.underlying f3.type = some (.int .i64)) (h4 : P.underlying f4.type = some (.int .i64))
    (hti : P.underlying ti = some (.int .i64)) (hci : P.cellsOf ti = 1)
    (he : P.underlying tc = some (.struct #[g0, g1])) (ce : P.cellsOf tc = 2) (o0 : g0.offset = 0) (o1 : g1.offset = 1) (cc0 : P.cellsOf g0.type = 1) (cc1 : P.cellsOf g1.type = 1)
    (hg0 : P.underlying g0.type = some (.slice ti)) (hg1 : P.underlying g1.type = some (.int .i64))
    (hv : Value.okWide P W .any b0 t v) (h : DataW.Trod enc P W 0 (fun _ => true) true t v d p) :
    ∃ (dp dc ds : Value) (K N : Int) (xs ys : List Int) (cs : List Cls), v = .agg #[dp, dc, ds, .int .i64 K, .int .i64 N] ∧ Ints W dp xs ∧ RdClA W dc cs ∧ Ints W ds ys := by
  obtain ⟨cells, rfl, hsz⟩ := okWide_struct hs hv
  obtain ⟨l⟩ := cells
  have hl : l.length = 5 := hsz.trans hC
  match l, hl with
  | [c0, c1, c2, c3, c4], _ =>
    obtain ⟨fuel, hf⟩ := h
    obtain ⟨us, n, _, _, _, hlen, hg⟩ := DataW.trod_struct hs hf
    have hlen : us.length = 5 := hlen
    match us, hlen with
    | [u0, u1, u2, u3, u4], _ =>
      have at_ : ∀ (i : Nat) (f : Field) (c : Value) (u : DataW H × List MemPlace), (#[f0, f1, f2, f3, f4] : Array Field)[i]? = some f → (([c0, c1, c2, c3, c4] : List Value).drop i).take 1 = [c] → ([u0, u1, u2, u3, u4] : List _)[i]? = some u → DataW.trod enc P W 0 (fun _ => true) true n f.type [c] = some u := fun i f c u hf hc hu => by
        obtain ⟨o, k⟩ := hone_of hone i f hf
        have := hg i f hf
        rw [hu, o, k] at this
        rw [← hc]; exact this
      obtain ⟨xs, hxs⟩ := trod_ints h0 hti hci (at_ 0 f0 c0 u0 rfl rfl rfl)
      obtain ⟨cs, hcs⟩ := trod_cls h1 he ce o0 o1 cc0 cc1 hg0 hti hci hg1 (at_ 1 f1 c1 u1 rfl rfl rfl)
      obtain ⟨ys, hys⟩ := trod_ints h2 hti hci (at_ 2 f2 c2 u2 rfl rfl rfl)
      obtain ⟨K, eK, _, _⟩ := DataW.trod_int h3 (at_ 3 f3 c3 u3 rfl rfl rfl)
      obtain ⟨N, eN, _, _⟩ := DataW.trod_int h4 (at_ 4 f4 c4 u4 rfl rfl rfl)
      obtain rfl : c3 = .int .i64 K := by simpa using eK
      obtain rfl : c4 = .int .i64 N := by simpa using eN
      exact ⟨c0, c1, c2, K, N, xs, ys, cs, rfl, hxs, hcs, hys⟩

end Go.Proofs.Ytejoapielndnnaa
