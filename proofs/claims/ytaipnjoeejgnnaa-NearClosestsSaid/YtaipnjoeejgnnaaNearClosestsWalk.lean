/-
  The walk of the law NearClosests: near.Closest and the reference answer alike. Conditions: the points can be read as data.
-/
import Derived.Test.YtaipnjoeejgnnaaClosest
namespace Go.Proofs.Ytaipnjoeejgnnaa
open Go Go.RowKit Go.Dam
set_option linter.unusedVariables false
set_option maxHeartbeats 400000 in
theorem nearClosests_walk (v : Value) (w : World) (h : ∃ n l, IsFlat 3 w w.heap.size v n l) :
    Calls Try.prog 10 #[v] w fun e w' => e = .returned (.bool true) ∧ Below w.heap.size w w' := by
  obtain ⟨n, l, h⟩ := h
  obtain ⟨a, b, f, cc, hR⟩ := ClosAns.ex l n
  have H1 := Lib.hid (nearClosest_any v n l a b f cc w h hR)
  have H2 := Lib.hid fun w1 (hb : Below w.heap.size w w1) => refClosest_any v n l a b f cc w1 w.heap.size hb.size (h.below hb) hR
  clear hR
  obtain ⟨A, c, rfl, hc, hm, hn, hl, hr, hw⟩ := h
  clear hr hl hw
  go_enter Try.func10, Try.ntmps10
  go_wp2_with (first
    | (go_at_call 33; refine (H1.out).mono ?_; rintro e w1 ⟨rfl, hb1⟩; have HB1 := Lib.hid hb1; clear hb1)
    | (go_at_call 34; refine (H2.out _ (HB1.out.alloc HB1.out.size _)).mono ?_; rintro e w2 ⟨rfl, hb2⟩; have k0 := ((Blk.new w1 60 #[.int .i64 a, .int .i64 b]).below hb2 (by simp)).alloc (.cells #[.int .i64 a, .int .i64 b] 60); have k1 := Blk.new w2 60 #[.int .i64 a, .int .i64 b]; have d0 := (k0.cell 0).trans rfl; have d1 := (k0.cell 1).trans rfl; have d2 := (k1.cell 0).trans rfl; have d3 := (k1.cell 1).trans rfl; have f0 := k0.frozen 0; have f1 := k0.frozen 1; have f2 := k1.frozen 0; have f3 := k1.frozen 1; clear k0 k1; have hz1 := HB1.out.size; have hz2 := hb2.size; have HB2 := Lib.hid hb2; clear hb2))
  go_ret
  exact ⟨ret_bool (by simp), ((HB1.out.alloc hz1 _).trans (HB2.out.mono (by simp; omega))).alloc (by simp at hz2; omega) _⟩
end Go.Proofs.Ytaipnjoeejgnnaa
