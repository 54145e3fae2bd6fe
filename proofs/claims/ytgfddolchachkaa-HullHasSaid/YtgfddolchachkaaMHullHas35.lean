/-
  Contract of hull.between: does a point lie on the way from one to another one. Conditions: the coordinates are within 2^20 either way.
-/
import Derived.Test.YtgfddolchachkaaMHullHas34
namespace Go.Dam.Hull
def btB (a b p : Pt) : Bool := (trn a b p == 0) && (decide (min a.1 b.1 ≤ p.1) && (decide (p.1 ≤ max a.1 b.1) && (decide (min a.2 b.2 ≤ p.2) && decide (p.2 ≤ max a.2 b.2))))
theorem btB_iff (a b p : Pt) : btB a b p = true ↔ Bt a b p := by unfold btB Bt; simp
end Go.Dam.Hull
namespace Go.Proofs.Ytgfddolchachkaa
open Go Go.RowKit Go.Dam Go.Dam.Hull
set_option linter.unusedVariables false
set_option maxHeartbeats 4000000 in
theorem hullBetween_any (xa ya za xb yb zb xp yp zp : Int) (w : World) (h1 : okC xa) (h2 : okC ya) (h3 : okC xb) (h4 : okC yb) (h5 : okC xp) (h6 : okC yp) :
    Calls Try.prog 70 #[.agg #[.int .i64 xa, .int .i64 ya, .int .i64 za], .agg #[.int .i64 xb, .int .i64 yb, .int .i64 zb], .agg #[.int .i64 xp, .int .i64 yp, .int .i64 zp]] w fun e w' => e = .returned (.bool (btB (xa, ya) (xb, yb) (xp, yp))) ∧ Below w.heap.size w w' := by
  have HT := Lib.hid fun W => hullTurn_any xa ya za xb yb zb xp yp zp W h1 h2 h3 h4 h5 h6
  have HB : Hid (btB (xa, ya) (xb, yb) (xp, yp) = ((trn (xa, ya) (xb, yb) (xp, yp) == 0) && (decide (min xa xb ≤ xp) && (decide (xp ≤ max xa xb) && (decide (min ya yb ≤ yp) && decide (yp ≤ max ya yb)))))) := Lib.hid rfl
  obtain ⟨z, hz⟩ : ∃ z, z = trn (xa, ya) (xb, yb) (xp, yp) := ⟨_, rfl⟩
  rw [← hz] at HT HB
  rw [HB.out]
  clear hz HB h1 h2 h3 h4 h5 h6
  have HA := Lib.hid (((Blk.new w 101 #[.int .i64 xa, .int .i64 ya, .int .i64 za]).alloc (.cells #[.int .i64 xb, .int .i64 yb, .int .i64 zb] 101)).alloc (.cells #[.int .i64 xp, .int .i64 yp, .int .i64 zp] 101))
  have HBb := Lib.hid ((Blk.new_at (w.alloc (.cells #[.int .i64 xa, .int .i64 ya, .int .i64 za] 101)) 101 #[.int .i64 xb, .int .i64 yb, .int .i64 zb] (w.heap.size + 1) (by simp)).alloc (.cells #[.int .i64 xp, .int .i64 yp, .int .i64 zp] 101))
  have HC := Lib.hid (Blk.new_at ((w.alloc (.cells #[.int .i64 xa, .int .i64 ya, .int .i64 za] 101)).alloc (.cells #[.int .i64 xb, .int .i64 yb, .int .i64 zb] 101)) 101 #[.int .i64 xp, .int .i64 yp, .int .i64 zp] (w.heap.size + 1 + 1) (by simp))
  have e2 : Below w.heap.size w (((w.alloc (.cells #[.int .i64 xa, .int .i64 ya, .int .i64 za] 101)).alloc (.cells #[.int .i64 xb, .int .i64 yb, .int .i64 zb] 101)).alloc (.cells #[.int .i64 xp, .int .i64 yp, .int .i64 zp] 101)) := (((Below.refl _ _).alloc (Nat.le_refl _) _).alloc (by simp) _).alloc (by simp; omega) _
  have E2 := Lib.hid e2
  clear e2
  cases hb0 : (z == 0) with
  | false =>
    go_enter Try.func70, Try.ntmps70
    go_wp2_with (go_at_call 73; refine (HT.out _).mono ?_; rintro e w1 ⟨rfl, hb1⟩; have E3 := Lib.hid (E2.out.trans (hb1.mono E2.out.size)))
    go_ret
    exact ⟨rfl, E3.out⟩
  | true =>
    have main : ∀ b1 b2 b3 b4 : Bool, decide (min xa xb ≤ xp) = b1 → decide (xp ≤ max xa xb) = b2 → decide (min ya yb ≤ yp) = b3 → decide (yp ≤ max ya yb) = b4 → Calls Try.prog 70 #[.agg #[.int .i64 xa, .int .i64 ya, .int .i64 za], .agg #[.int .i64 xb, .int .i64 yb, .int .i64 zb], .agg #[.int .i64 xp, .int .i64 yp, .int .i64 zp]] w fun e w' => e = .returned (.bool (b1 && (b2 && (b3 && b4)))) ∧ Below w.heap.size w w' := by
      intro b1 b2 b3 b4 d1 d2 d3 d4
      cases b1 <;> cases b2 <;> cases b3 <;> cases b4
      all_goals
        go_enter Try.func70, Try.ntmps70
        go_wp2_with (go_at_call 73; refine (HT.out _).mono ?_; rintro e w1 ⟨rfl, hb1⟩; have E3 := Lib.hid (E2.out.trans (hb1.mono E2.out.size)); have lt1 := HA.out.lt; have lt2 := HBb.out.lt; have lt3 := HC.out.lt; have A1 := HA.out.below hb1 lt1; have A2 := HBb.out.below hb1 lt2; have A3 := HC.out.below hb1 lt3; have a0 : w1.cell? ⟨w.heap.size, 0, none⟩ = some (.int .i64 xa) := A1.cell 0; have a1 : w1.cell? ⟨w.heap.size, 1, none⟩ = some (.int .i64 ya) := A1.cell 1; have c0 : w1.cell? ⟨w.heap.size + 1, 0, none⟩ = some (.int .i64 xb) := A2.cell 0; have c1 : w1.cell? ⟨w.heap.size + 1, 1, none⟩ = some (.int .i64 yb) := A2.cell 1; have p0 : w1.cell? ⟨w.heap.size + 1 + 1, 0, none⟩ = some (.int .i64 xp) := A3.cell 0; have p1 : w1.cell? ⟨w.heap.size + 1 + 1, 1, none⟩ = some (.int .i64 yp) := A3.cell 1; clear A1 A2 A3 lt1 lt2 lt3)
        go_ret
        exact ⟨rfl, E3.out⟩
    simpa using main _ _ _ _ rfl rfl rfl rfl
end Go.Proofs.Ytgfddolchachkaa
