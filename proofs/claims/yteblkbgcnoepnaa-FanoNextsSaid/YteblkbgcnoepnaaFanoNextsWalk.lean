/-
  The walk of the law FanoNexts: fano.Next answers what the reference says. Conditions: the arguments can be read as data.
-/
import Derived.Test.YteblkbgcnoepnaaFanoNext
import Derived.Test.YteblkbgcnoepnaaFanoArg
namespace Go.Proofs.Yteblkbgcnoepnaa
open Go Go.RowKit Go.Dam
set_option linter.unusedVariables false
set_option maxHeartbeats 400000 in
theorem fanoNexts_walk (v u : Value) (w : World) (h : ∃ bd n1 m1 ws1 n2 ws2, IsFano w w.heap.size v bd n1 m1 ws1 n2 ws2) (h' : ∃ x : Int, u = .int .i64 x ∧ I64 x) :
    Calls Try.prog 11 #[v, u] w fun e w' => e = .returned (.bool true) ∧ Below w.heap.size w w' := by
  obtain ⟨l, ok, h⟩ := FanoIs.ex h
  obtain ⟨x, rfl, hx⟩ := h'
  have hasc : ok = true → Asc l := fun g => by
    cases ok with
    | false => cases g
    | true => obtain ⟨_, b, hb⟩ := h.good; exact hb.asc
  obtain ⟨r, cc, hR⟩ := NextFR.ex hasc x
  have C1 := Lib.hid fun W (hW : Below w.heap.size w W) => fanoNext_any v l ok x r cc W w.heap.size hW.size (h.below hW) hx hR
  have C2 := Lib.hid fun W (hW : Below w.heap.size w W) => refFanoNext_any v l ok x r cc W w.heap.size hW.size (h.below hW) hx hR
  obtain ⟨a, b, c, A1, k1, c1, d, A2, k2, c2, rfl⟩ := h.shape
  have HA := Lib.hid ((Below.refl w.heap.size w).alloc (Nat.le_refl _) (.cells #[.int .i64 a, .int .i64 b, .int .i64 c, .slice A1 k1 c1, .int .i64 d, .slice A2 k2 c2] 45))
  have HBk := Lib.hid (Blk.new w 45 #[.int .i64 a, .int .i64 b, .int .i64 c, .slice A1 k1 c1, .int .i64 d, .slice A2 k2 c2])
  clear h hR hx hasc
  go_enter Try.func11, Try.ntmps11
  go_wp2_with (first
    | (go_at_call 34; refine (C1.out _ HA.out).mono ?_; rintro e w1 ⟨rfl, hb1⟩; have HK1 := Lib.hid (HBk.out.below hb1 HBk.out.lt); have k0 := HK1.out.cell 0; have k1 := HK1.out.cell 1; have k2 := HK1.out.cell 2; have k3 := HK1.out.cell 3; have k4 := HK1.out.cell 4; have k5 := HK1.out.cell 5; have HB1 := Lib.hid (below_box hb1); clear hb1)
    | (go_at_call 35; refine (C2.out _ HB1.out).mono ?_; rintro e w2 ⟨rfl, hb2⟩))
  all_goals (go_ret; exact ⟨ret_bool (by simp), HB1.out.trans (hb2.mono HB1.out.size)⟩)
end Go.Proofs.Yteblkbgcnoepnaa
