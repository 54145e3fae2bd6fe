/-
  How the argument of the fano functions is opened: a struct of a number, a packed row and a row of bits. Conditions: none; nothing here names the program.
-/
import Derived.Test.YteblkbgcnoepnaaLib
import Derived.Test.YteblkbgcnoepnaaFanoWords
namespace Go.Dam
open Go Go.RowKit Go.ChangeShapes Go.WideShapes Go.Joins Go.Deep
set_option linter.unusedVariables false
section
variable {H : Type} {enc : TypeId × Value → H} {P : Program} {w : World} {base : Nat} {spare : Nat → Bool} {held : Bool}
variable {r : Reach} {b0 : Nat} {t u : TypeId} {v : Value} {d : DataW H} {ps : List MemPlace}
theorem arg_fano {f0 f1 f2 g0 g1 g2 h0 h1 : Field} (ht : P.underlying t = some (.struct #[f0, f1, f2])) (hf0 : P.underlying f0.type = some (.int .i64)) (hf1 : P.underlying f1.type = some (.struct #[g0, g1, g2])) (hf2 : P.underlying f2.type = some (.struct #[h0, h1]))
    (hg0 : P.underlying g0.type = some (.int .i64)) (hg1 : P.underlying g1.type = some (.int .i64)) (hg2 : P.underlying g2.type = some (.slice u)) (hh0 : P.underlying h0.type = some (.int .i64)) (hh1 : P.underlying h1.type = some (.slice u))
    (hu : P.underlying u = some (.int .u64)) (hs : P.cellsOf u = 1) (hby : 1 ≤ P.bytesOf u)
    (ho : (f0.offset, f1.offset, f2.offset) = (0, 1, 4)) (hc : (P.cellsOf f0.type, P.cellsOf f1.type, P.cellsOf f2.type) = (1, 3, 2)) (hone1 : oneCellFields P #[g0, g1, g2] = true) (hone2 : oneCellFields P #[h0, h1] = true) (hC : P.cellsOf t = 6)
    (hv : Value.okWide P w r b0 t v) (h : DataW.Trod enc P w base spare held t v d ps) (hz : Sized P t d) : ∃ bd n1 m1 ws1 n2 ws2, IsFano w w.heap.size v bd n1 m1 ws1 n2 ws2 := by
  obtain ⟨cs, rfl, hsz⟩ := okWide_struct ht hv
  obtain ⟨l⟩ := cs
  match l, hsz.trans hC with
  | [c0, c1, c2, c3, c4, c5], _ =>
    obtain ⟨fuel, hf⟩ := h
    obtain ⟨y0, y1, y2, n, hx, _, t0, t1, t2⟩ := trod_struct3 ht hf
    simp only [Prod.mk.injEq] at ho hc
    obtain ⟨o0, o1, o2⟩ := ho
    obtain ⟨k0, k1, k2⟩ := hc
    simp only [Prod.mk.injEq] at hx
    obtain ⟨rfl, _⟩ := hx
    have t0' : DataW.trod enc P w base spare held n f0.type [c0] = some y0 := by simpa [Value.cells, o0, k0] using t0
    have t1' : DataW.trod enc P w base spare held n f1.type [c1, c2, c3] = some y1 := by simpa [Value.cells, o1, k1] using t1
    have t2' : DataW.trod enc P w base spare held n f2.type [c4, c5] = some y2 := by simpa [Value.cells, o2, k2] using t2
    have z1 : Sized P f1.type y1.1 := hz.field ht (j := 1) rfl rfl
    have z2 : Sized P f2.type y2.1 := hz.field ht (j := 2) rfl rfl
    obtain ⟨bd, hbd, _, wbd⟩ := DataW.trod_int hf0 t0'
    simp only [List.cons.injEq, and_true] at hbd
    subst hbd
    obtain ⟨a0, a1, a2, n', hx1, _, u0, u1, u2⟩ := trod_struct3 hf1 t1'
    obtain ⟨p0, q0⟩ := hone_of hone1 0 g0 rfl
    obtain ⟨p1, q1⟩ := hone_of hone1 1 g1 rfl
    obtain ⟨p2, q2⟩ := hone_of hone1 2 g2 rfl
    have u0' : DataW.trod enc P w base spare held n' g0.type [c1] = some a0 := by simpa [p0, q0] using u0
    have u1' : DataW.trod enc P w base spare held n' g1.type [c2] = some a1 := by simpa [p1, q1] using u1
    have u2' : DataW.trod enc P w base spare held n' g2.type [c3] = some a2 := by simpa [p2, q2] using u2
    obtain ⟨n1, hn1, _, wn1⟩ := DataW.trod_int hg0 u0'
    simp only [List.cons.injEq, and_true] at hn1
    subst hn1
    obtain ⟨m1, hm1, _, wm1⟩ := DataW.trod_int hg1 u1'
    simp only [List.cons.injEq, and_true] at hm1
    subst hm1
    rw [hx1] at z1
    obtain ⟨l1, hl1⟩ := ints_of hg2 hu hs hby u2' (z1.field hf1 (j := 2) rfl rfl)
    obtain ⟨ws1, hws1⟩ := words_of_ints hl1
    obtain ⟨e0, e1, n'', hx2, _, v0, v1⟩ := trod_struct2 hf2 t2'
    obtain ⟨r0, s0⟩ := hone_of hone2 0 h0 rfl
    obtain ⟨r1, s1⟩ := hone_of hone2 1 h1 rfl
    have v0' : DataW.trod enc P w base spare held n'' h0.type [c4] = some e0 := by simpa [r0, s0] using v0
    have v1' : DataW.trod enc P w base spare held n'' h1.type [c5] = some e1 := by simpa [r1, s1] using v1
    obtain ⟨n2, hn2, _, wn2⟩ := DataW.trod_int hh0 v0'
    simp only [List.cons.injEq, and_true] at hn2
    subst hn2
    rw [hx2] at z2
    obtain ⟨l2, hl2⟩ := ints_of hh1 hu hs hby v1' (z2.field hf2 (j := 1) rfl rfl)
    obtain ⟨ws2, hws2⟩ := words_of_ints hl2
    exact ⟨bd, n1, m1, ws1, n2, ws2, c3, c5, rfl, wf_i64 wbd, wf_i64 wn1, wf_i64 wm1, wf_i64 wn2, hws1, hws2⟩
end
end Go.Dam
