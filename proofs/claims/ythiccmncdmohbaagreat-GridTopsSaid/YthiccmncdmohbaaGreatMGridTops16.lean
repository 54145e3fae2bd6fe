/-
  How a wave lies in memory: a struct of one slice, whose elements are rows of bits; and how the argument is opened to it. Conditions: none; nothing here names the program.
-/
import Derived.Test.YthiccmncdmohbaaGreatMGridTops00
import Derived.Test.YthiccmncdmohbaaGreatMGridTops03
set_option linter.unusedVariables false
set_option linter.unusedSimpArgs false
namespace Go.Dam
open Go Go.RowKit Go.ChangeShapes Go.WideShapes Go.Joins Go.Deep
set_option linter.unusedVariables false
/-- The slice value reads as rows of bits. -/
def IsRowsB (w : World) (B : Nat) (v : Value) (rs : List (Int × List Nat)) : Prop :=
  ∃ A c, ∃ vs : List Value, v = .slice A rs.length c ∧ rs.length ≤ c ∧ c ≤ maxLen ∧ rs.length ≤ 140737488351232 ∧ Reads w B 2 A rs.length vs ∧ ∀ i, i < rs.length → IsBits w B (.agg #[vs.getD (i * 2) undef, vs.getD (i * 2 + 1) undef]) (rs.getD i (0, [])).1 (rs.getD i (0, [])).2
def IsWave (w : World) (B : Nat) (v : Value) (rs : List (Int × List Nat)) : Prop := ∃ s, v = .agg #[s] ∧ IsRowsB w B s rs
section
variable {w w' : World} {B B' : Nat} {v : Value} {rs : List (Int × List Nat)}
theorem IsRowsB.below (h : IsRowsB w B v rs) (hb : Below B w w') : IsRowsB w' B v rs := by
  obtain ⟨A, c, vs, rfl, h1, h2, h3, h4, h5⟩ := h
  exact ⟨A, c, vs, rfl, h1, h2, h3, h4.below hb, fun i hi => (h5 i hi).below hb⟩
theorem IsRowsB.more (h : IsRowsB w B v rs) (hB : B ≤ B') : IsRowsB w B' v rs := by
  obtain ⟨A, c, vs, rfl, h1, h2, h3, h4, h5⟩ := h
  exact ⟨A, c, vs, rfl, h1, h2, h3, h4.more hB, fun i hi => (h5 i hi).more hB⟩
theorem IsWave.below (h : IsWave w B v rs) (hb : Below B w w') : IsWave w' B v rs := by
  obtain ⟨s, rfl, h⟩ := h; exact ⟨s, rfl, h.below hb⟩
theorem IsWave.more (h : IsWave w B v rs) (hB : B ≤ B') : IsWave w B' v rs := by
  obtain ⟨s, rfl, h⟩ := h; exact ⟨s, rfl, h.more hB⟩
theorem rows_at {c : Nat} {A : Option Addr} (h : IsRowsB w B (.slice A rs.length c) rs) (h0 : 0 < rs.length) : rs.length ≤ c ∧
    ∃ b off, A = some ⟨b, off, none⟩ ∧ b < B ∧ ∀ i, i < rs.length → ∃ sv, w.cell? ⟨b, off + i * 2, none⟩ = some (.int .i64 (rs.getD i (0, [])).1) ∧ w.cell? ⟨b, off + i * 2 + 1, none⟩ = some sv ∧ I64 (rs.getD i (0, [])).1 ∧ IsWords w B sv (rs.getD i (0, [])).2 := by
  obtain ⟨A', c', vs, hv, h1, h2, h3, ⟨h4, h4'⟩, h5⟩ := h
  obtain ⟨rfl, rfl⟩ : A = A' ∧ c = c' := by injection hv with a b c; exact ⟨a, c⟩
  refine ⟨h1, ?_⟩
  obtain ⟨ad, rfl, hb, hc⟩ := h4' h0
  obtain ⟨b, off, sp⟩ := ad
  have key : ∀ j, j < rs.length * 2 → w.cell? ((⟨b, off, sp⟩ : Addr).add j) = some (vs.getD j undef) := fun j hj => hc j _ (by
    have : j < vs.length := by omega
    simp [this])
  have hsp : sp = none := by simpa [Addr.add] using cell_spot (key 0 (by omega))
  subst hsp
  have key2 : ∀ j, j < rs.length * 2 → w.cell? ⟨b, off + j, none⟩ = some (vs.getD j undef) := fun j hj => by
    have hu := key j hj
    have e : (⟨b, off, none⟩ : Addr).add j = ⟨b, off + j, none⟩ := by unfold Addr.add; split <;> simp_all
    rwa [e] at hu
  refine ⟨b, off, rfl, hb, fun i hi => ?_⟩
  obtain ⟨s, hs, hi64, hw⟩ := h5 i hi
  have e0 := key2 (i * 2) (by omega)
  have e1 := key2 (i * 2 + 1) (by omega)
  injection hs with hs
  obtain ⟨hs0, hs1⟩ : vs.getD (i * 2) undef = .int .i64 (rs.getD i (0, [])).1 ∧ vs.getD (i * 2 + 1) undef = s := by
    have := congrArg Array.toList hs
    simpa using this
  rw [hs0] at e0
  rw [hs1] at e1
  exact ⟨s, e0, by rw [Nat.add_assoc]; exact e1, hi64, hw⟩
end
section
variable {H : Type} {enc : TypeId × Value → H} {P : Program} {w : World} {base : Nat} {spare : Nat → Bool} {held : Bool}
variable {r : Reach} {b0 : Nat} {t e u : TypeId} {v : Value} {d : DataW H} {ps : List MemPlace}
theorem rowsB_of {g0 g1 : Field} {fuel : Nat} {s : Value} {x : DataW H × List MemPlace} (ht : P.underlying t = some (.slice e)) (he : P.underlying e = some (.struct #[g0, g1])) (hg0 : P.underlying g0.type = some (.int .i64)) (hg1 : P.underlying g1.type = some (.slice u)) (hu : P.underlying u = some (.int .u64))
    (hs : P.cellsOf u = 1) (hby : 1 ≤ P.bytesOf u) (hone : oneCellFields P #[g0, g1] = true) (hC : P.cellsOf e = 2) (hby2 : 1 ≤ P.bytesOf e) (hf : DataW.trod enc P w base spare held fuel t [s] = some x) (hz : Sized P t x.1) : ∃ rs, IsRowsB w w.heap.size s rs := by
  obtain ⟨A, n, c, vs, hcs, hc, hm, hb, hr, hi⟩ := open_reads ht hC (by omega) hf hz
  obtain rfl : s = .slice A n c := by simpa using hcs
  have hl : vs.length = n * 2 := hr.1
  have key : ∀ i, i < n → ∃ p : Int × List Nat, IsBits w w.heap.size (.agg #[vs.getD (i * 2) undef, vs.getD (i * 2 + 1) undef]) p.1 p.2 := by
    intro i hin
    obtain ⟨f, y, hy, hyz⟩ := hi i hin
    have hdr : (vs.drop (i * 2)).take 2 = [vs.getD (i * 2) undef, vs.getD (i * 2 + 1) undef] := by
      have h1 : i * 2 < vs.length := by omega
      have h2 : i * 2 + 1 < vs.length := by omega
      rw [List.drop_eq_getElem_cons h1, List.take_succ_cons, List.drop_eq_getElem_cons h2, List.take_succ_cons, List.take_zero, List.getD_eq_getElem?_getD, List.getElem?_eq_getElem h1, List.getD_eq_getElem?_getD, List.getElem?_eq_getElem h2]; rfl
    rw [hdr] at hy
    obtain ⟨y0, y1, n', rfl, _, t0, t1⟩ := trod_struct2 he hy
    obtain ⟨o0, k0⟩ := hone_of hone 0 g0 rfl
    obtain ⟨o1, k1⟩ := hone_of hone 1 g1 rfl
    have t0' : DataW.trod enc P w base spare held n' g0.type [vs.getD (i * 2) undef] = some y0 := by simpa [o0, k0] using t0
    have t1' : DataW.trod enc P w base spare held n' g1.type [vs.getD (i * 2 + 1) undef] = some y1 := by simpa [o1, k1] using t1
    obtain ⟨x, hx, _, hw⟩ := DataW.trod_int hg0 t0'
    simp only [List.cons.injEq, and_true] at hx
    rw [hx]
    obtain ⟨l, hl⟩ := ints_of hg1 hu hs hby t1' (hyz.field he (j := 1) rfl rfl)
    obtain ⟨ws, hws⟩ := words_of_ints hl
    exact ⟨(x, ws), _, rfl, wf_i64 hw, hws⟩
  have hr2 : reachBytes = 140737488351232 := rfl
  have : n * 1 ≤ n * P.bytesOf e := Nat.mul_le_mul_left _ hby2
  obtain ⟨F, hF⟩ : ∃ F : Nat → Int × List Nat, ∀ i, i < n → IsBits w w.heap.size (.agg #[vs.getD (i * 2) undef, vs.getD (i * 2 + 1) undef]) (F i).1 (F i).2 := by
    classical
    exact ⟨fun i => if h : i < n then Classical.choose (key i h) else (0, []), fun i h => by simpa only [dif_pos h] using Classical.choose_spec (key i h)⟩
  let rs := (List.range n).map F
  have hln : rs.length = n := by simp [rs]
  refine ⟨rs, A, c, vs, by rw [hln], by rw [hln]; exact hc, hm, by rw [hln]; omega, by rw [hln]; exact hr, fun i hi => ?_⟩
  rw [hln] at hi
  have e1 : rs.getD i (0, []) = F i := by
    simp only [rs, List.getD_eq_getElem?_getD, List.getElem?_map, List.getElem?_range hi, Option.map_some, Option.getD_some]
  rw [e1]
  exact hF i hi
theorem open_agg1 {f0 : Field} (hs : P.underlying t = some (.struct #[f0])) (hone : oneCellFields P #[f0] = true) (hC : P.cellsOf t = 1) (hv : Value.okWide P w r b0 t v) (h : DataW.Trod enc P w base spare held t v d ps) :
    ∃ (v0 : Value) (y0 : DataW H × List MemPlace) (n : Nat), v = .agg #[v0] ∧ d = .agg [y0.1] ∧ DataW.trod enc P w base spare held n f0.type [v0] = some y0 := by
  obtain ⟨cs, rfl, hsz⟩ := okWide_struct hs hv
  obtain ⟨c0, rfl⟩ : ∃ c0, cs = #[c0] := by
    have h1 : cs.size = 1 := hsz.trans hC
    obtain ⟨l⟩ := cs
    match l, h1 with
    | [c0], _ => exact ⟨c0, rfl⟩
  obtain ⟨fuel, hf⟩ := h
  obtain ⟨xs, n, _, hx, hl, hlen, hf2⟩ := DataW.trod_struct hs hf
  obtain ⟨o0, k0⟩ := hone_of hone 0 f0 rfl
  match xs, hlen with
  | [y0], _ =>
    simp only [Prod.mk.injEq] at hx
    exact ⟨c0, y0, n, rfl, by simpa using hx.1, by simpa [Value.cells, o0, k0] using hf2 0 f0 rfl⟩
theorem arg_wave {f0 g0 g1 : Field} (ht : P.underlying t = some (.struct #[f0])) (h0 : P.underlying f0.type = some (.slice e)) (he : P.underlying e = some (.struct #[g0, g1])) (hg0 : P.underlying g0.type = some (.int .i64)) (hg1 : P.underlying g1.type = some (.slice u)) (hu : P.underlying u = some (.int .u64))
    (hs : P.cellsOf u = 1) (hby : 1 ≤ P.bytesOf u) (hone : oneCellFields P #[f0] = true) (hone2 : oneCellFields P #[g0, g1] = true) (hC : P.cellsOf t = 1) (hC2 : P.cellsOf e = 2) (hby2 : 1 ≤ P.bytesOf e)
    (hv : Value.okWide P w r b0 t v) (h : DataW.Trod enc P w base spare held t v d ps) (hz : Sized P t d) : ∃ rs, IsWave w w.heap.size v rs := by
  obtain ⟨v0, y0, n, rfl, rfl, t0⟩ := open_agg1 ht hone hC hv h
  obtain ⟨rs, hrs⟩ := rowsB_of h0 he hg0 hg1 hu hs hby hone2 hC2 hby2 t0 (hz.field ht (j := 0) rfl rfl)
  exact ⟨rs, v0, rfl, hrs⟩
end
end Go.Dam
