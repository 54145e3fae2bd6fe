/-
  The walk of the law QueryChecks: query.Check and the reference answer alike. Conditions: the expression can be read eight levels down and is not larger than the memory; the library's table of powers of ten holds what the library lays.
-/
import Derived.Test.YtlojecajonhmhaaDoorMQueryChecks29
import Derived.Lib.QuietBelow
set_option linter.unusedVariables false
set_option linter.unusedSimpArgs false
namespace Go.Proofs.YtlojecajonhmhaaDoor
open Go Go.RowKit Go.Dam Go.Dam.Q
set_option linter.unusedVariables false
set_option maxRecDepth 100000 in
set_option maxHeartbeats 4000000 in
theorem queryChecks_walk (v : Value) (w : World) (h : ∃ x, IsEx w w.heap.size 8 v x ∧ 48 * sizeN 8 x ≤ 140737488355328) (hT : Tab w) :
    Calls Tryd.prog 3 #[v] w fun e w' => e = .returned (.bool true) ∧ RowKit.Below w.heap.size w w' := by
  obtain ⟨x, h, hsz⟩ := h
  have HF := Lib.hid fun W (hb : RowKit.Below w.heap.size w W) => queryCheck_any x v W w.heap.size hb.size (h.below hb) hsz (hT.below hb)
  have HR := Lib.hid fun W (hb : RowKit.Below w.heap.size w W) => refCheck_any x v W w.heap.size hb.size (h.below hb) hsz
  obtain ⟨k, x0, y0, x1, y1, ww, A, n, c, rfl⟩ := exV_of h
  generalize checkN x = C at *
  clear h hsz hT
  unfold exV at *
  have HK := Lib.hid (Blk.new w 26 #[.int .i64 k, .int .i64 x0, .int .i64 y0, .int .i64 x1, .int .i64 y1, .int .i64 ww, .slice A n c])
  have HB0 := Lib.hid ((RowKit.Below.refl w.heap.size w).alloc (Nat.le_refl _) (.cells #[.int .i64 k, .int .i64 x0, .int .i64 y0, .int .i64 x1, .int .i64 y1, .int .i64 ww, .slice A n c] 26))
  go_enter Tryd.func3, Tryd.ntmps3
  go_wp2_with fail
  generalize w.alloc (.cells #[.int .i64 k, .int .i64 x0, .int .i64 y0, .int .i64 x1, .int .i64 y1, .int .i64 ww, .slice A n c] 26) = W0 at *
  have P0 := fun d os => cell_regrown ((HK.out.cell 0).trans rfl) d os
  have P1 := fun d os => cell_regrown ((HK.out.cell 1).trans rfl) d os
  have P2 := fun d os => cell_regrown ((HK.out.cell 2).trans rfl) d os
  have P3 := fun d os => cell_regrown ((HK.out.cell 3).trans rfl) d os
  have P4 := fun d os => cell_regrown ((HK.out.cell 4).trans rfl) d os
  have P5 := fun d os => cell_regrown ((HK.out.cell 5).trans rfl) d os
  have P6 := fun d os => cell_regrown ((HK.out.cell 6).trans rfl) d os
  have HFq := Lib.hid fun d os => Calls.regrown_of (HF.out (Sort.grow (redrawn W0 d) os) (HB0.out.trans ((below_regrown W0 d os).mono HB0.out.size)))
  have HRq := Lib.hid fun d os => Calls.regrown_of (HR.out (Sort.grow (redrawn W0 d) os) (HB0.out.trans ((below_regrown W0 d os).mono HB0.out.size)))
  refine wp_region_quiet_below (by kernel_rfl) (by kernel_rfl) ?_
  repeat (quiet_step ((first | (go_at_call 7; exact HFq.out _ _) | (go_at_call 8; exact HRq.out _ _))))
  refine wpQuiet_nil ?_
  intro _ hw'
  obtain ⟨⟨dq, osq⟩, hw''⟩ := hw'
  subst hw''
  have HB3 := Lib.hid (HB0.out.trans ((below_regrown W0 dq osq).mono HB0.out.size))
  generalize Sort.grow (redrawn W0 dq) osq = wt at *
  go_wp2_with fail
  go_ret
  exact ⟨ret_bool (by simp), HB3.out⟩
end Go.Proofs.YtlojecajonhmhaaDoor
