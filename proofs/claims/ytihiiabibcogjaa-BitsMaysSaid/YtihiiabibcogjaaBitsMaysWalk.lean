/-
  The walk of the law BitsMays: bits.May and the reference's BitsMay answer the same. Conditions: the row can be read as data.
-/
import Derived.Test.YtihiiabibcogjaaBitsMay
import Derived.Deep.RegionHeld3
namespace Go.Proofs.Ytihiiabibcogjaa
open Go Go.RowKit Go.Dam
set_option linter.unusedVariables false
/-- What is kept while the two calls are made in whatever order: the argument's box, and its reading. -/
def KeptBits (W : World) (n : Int) (s : Value) (ws : List Nat) (w : World) : Prop := Below W.heap.size W w ∧ W.heap.size < w.heap.size ∧ IsBits w W.heap.size (.agg #[.int .i64 n, s]) n ws
theorem KeptBits.next {W w w' : World} {n : Int} {s : Value} {ws : List Nat} (h : KeptBits W n s ws w) (hb : Below w.heap.size w w') : KeptBits W n s ws w' :=
  ⟨h.1.trans (hb.mono h.1.size), Nat.lt_of_lt_of_le h.2.1 hb.size, h.2.2.below (hb.mono h.1.size)⟩
theorem KeptBits.drew {W w : World} {n : Int} {s : Value} {ws : List Nat} (h : KeptBits W n s ws w) : KeptBits W n s ws w.drew := h.next (Below.refl _ _).drew
set_option maxHeartbeats 400000 in
theorem bitsMays_walk (v : Value) (w : World) (h : ∃ n ws, IsBits w w.heap.size v n ws) :
    Calls Try.prog 4 #[v] w fun e w' => e = .returned (.bool true) ∧ Below w.heap.size w w' := by
  obtain ⟨n, ws, h⟩ := h
  have h' := h
  obtain ⟨s, rfl, hi, hs⟩ := h'
  have HK : Hid (KeptBits w n s ws (w.alloc (.cells #[.int .i64 n, s] 28))) :=
    Lib.hid ⟨(Below.refl _ _).alloc (Nat.le_refl _) _, by simp, h.below ((Below.refl _ _).alloc (Nat.le_refl _) _)⟩
  clear h hi hs
  go_enter Try.func4, Try.ntmps4
  go_wp2_with fail
  have c0 : (w.alloc (.cells #[.int .i64 n, s] 28)).drew.cell? ⟨w.heap.size, 0, none⟩ = some (.int .i64 n) := by simp
  have c1 : (w.alloc (.cells #[.int .i64 n, s] 28)).drew.cell? ⟨w.heap.size, 1, none⟩ = some s := by simp
  have HD : Hid (KeptBits w n s ws (w.alloc (.cells #[.int .i64 n, s] 28)).drew) := Lib.hid HK.out.drew
  go_region_held3 (fun w' => w'.cell? ⟨w.heap.size, 0, none⟩ = some (.int .i64 n) ∧ w'.cell? ⟨w.heap.size, 1, none⟩ = some s ∧ Hid (KeptBits w n s ws w'))
    (first | exact ⟨c0, c1, HD⟩ | exact ⟨by assumption, by assumption, by assumption⟩)
    (first
      | (go_at_call 15; refine (may_any _ n ws _ w.heap.size (Hid.out (by assumption : Hid (KeptBits w n s ws _))).1.size (Hid.out (by assumption : Hid (KeptBits w n s ws _))).2.2).mono ?_; rintro e w1 ⟨rfl, hb⟩; have hk1 := Lib.hid ((Hid.out (by assumption : Hid (KeptBits w n s ws _))).next hb); have d0 := (hb.cell (p := ⟨w.heap.size, 0, none⟩) (Hid.out (by assumption : Hid (KeptBits w n s ws _))).2.1).trans (by assumption); have d1 := (hb.cell (p := ⟨w.heap.size, 1, none⟩) (Hid.out (by assumption : Hid (KeptBits w n s ws _))).2.1).trans (by assumption); clear hb)
      | (go_at_call 16; refine (refMay_any _ n ws _ w.heap.size (Hid.out (by assumption : Hid (KeptBits w n s ws _))).1.size (Hid.out (by assumption : Hid (KeptBits w n s ws _))).2.2).mono ?_; rintro e w2 ⟨rfl, hb⟩; have hk2 := Lib.hid ((Hid.out (by assumption : Hid (KeptBits w n s ws _))).next hb); have e0 := (hb.cell (p := ⟨w.heap.size, 0, none⟩) (Hid.out (by assumption : Hid (KeptBits w n s ws _))).2.1).trans (by assumption); have e1 := (hb.cell (p := ⟨w.heap.size, 1, none⟩) (Hid.out (by assumption : Hid (KeptBits w n s ws _))).2.1).trans (by assumption); clear hb))
  go_wp2
  go_ret
  exact ⟨rfl, hk2.out.1⟩
end Go.Proofs.Ytihiiabibcogjaa
