/-
  The walk of the law QueryPrints: query.Print and the reference answer alike. Conditions: the expression can be read eight levels down and is not larger than the memory; the library's table of powers of ten holds what the library lays.
-/
import Derived.Test.YtlojecajonhmhaaDoorMQueryPrints29
set_option linter.unusedVariables false
set_option linter.unusedSimpArgs false
namespace Go.Proofs.YtlojecajonhmhaaDoor
open Go Go.RowKit Go.Dam Go.Dam.Q
set_option linter.unusedVariables false
set_option maxRecDepth 100000 in
set_option maxHeartbeats 4000000 in
theorem queryPrints_walk (v : Value) (w : World) (h : ∃ x, IsEx w w.heap.size 8 v x ∧ 48 * sizeN 8 x ≤ 140737488355328) (hT : Tab w) :
    Calls Tryd.prog 4 #[v] w fun e w' => e = .returned (.bool true) ∧ RowKit.Below w.heap.size w w' := by
  obtain ⟨x, h, hsz⟩ := h
  have HF := Lib.hid fun W (hb : RowKit.Below w.heap.size w W) => queryPrint_any x v W w.heap.size hb.size (h.below hb) hsz (hT.below hb)
  have HR := Lib.hid fun W (hb : RowKit.Below w.heap.size w W) => refPrint_any x v W w.heap.size hb.size (h.below hb) hsz
  obtain ⟨k, x0, y0, x1, y1, ww, A, n, c, rfl⟩ := exV_of h
  generalize checkN x = C at *
  clear h hsz hT
  unfold exV at *
  have HK := Lib.hid (Blk.new w 26 #[.int .i64 k, .int .i64 x0, .int .i64 y0, .int .i64 x1, .int .i64 y1, .int .i64 ww, .slice A n c])
  have HB0 := Lib.hid ((RowKit.Below.refl w.heap.size w).alloc (Nat.le_refl _) (.cells #[.int .i64 k, .int .i64 x0, .int .i64 y0, .int .i64 x1, .int .i64 y1, .int .i64 ww, .slice A n c] 26))
  go_enter Tryd.func4, Tryd.ntmps4
  go_wp2_with (first
    | (go_at_call 9; refine (HF.out _ HB0.out).mono ?_; rintro e w1 ⟨⟨S, rfl, hS⟩, hb1⟩; have HS := Lib.hid hS; have HB1 := Lib.hid (HB0.out.trans (hb1.mono (by simp))); have HK1 := Lib.hid (HK.out.below hb1 (by simp)); have c0 := (HK1.out.cell 0).trans rfl; have c1 := (HK1.out.cell 1).trans rfl; have c2 := (HK1.out.cell 2).trans rfl; have c3 := (HK1.out.cell 3).trans rfl; have c4 := (HK1.out.cell 4).trans rfl; have c5 := (HK1.out.cell 5).trans rfl; have c6 := (HK1.out.cell 6).trans rfl; clear hb1 hS)
    | (go_at_call 10; refine (HR.out _ HB1.out).mono ?_; rintro e w2 ⟨⟨R, rfl, hR⟩, hb2⟩; obtain rfl := HS.out.uniq hR; have HB2 := Lib.hid (HB1.out.trans (hb2.mono HB1.out.size)); clear hb2 hR))
  go_ret
  exact ⟨ret_bool (by simp), HB2.out⟩
end Go.Proofs.YtlojecajonhmhaaDoor
