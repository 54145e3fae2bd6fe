/-
  The walk of the law PackMays: pack.May and the reference's PackMay answer the same. Conditions: the row can be read as data.
-/
import Derived.Test.YtihiiabibcogjaaRefPackMay
import Derived.Deep.RegionHeld3
namespace Go.Proofs.Ytihiiabibcogjaa
open Go Go.RowKit Go.Dam
set_option linter.unusedVariables false
/-- What is kept while the two calls are made in whatever order: the argument's box, and its reading. -/
def KeptPacked (W : World) (n m : Int) (s : Value) (ws : List Nat) (w : World) : Prop := Below W.heap.size W w ∧ W.heap.size < w.heap.size ∧ IsPacked w W.heap.size (.agg #[.int .i64 n, .int .i64 m, s]) n m ws
theorem KeptPacked.next {W w w' : World} {n m : Int} {s : Value} {ws : List Nat} (h : KeptPacked W n m s ws w) (hb : Below w.heap.size w w') : KeptPacked W n m s ws w' :=
  ⟨h.1.trans (hb.mono h.1.size), Nat.lt_of_lt_of_le h.2.1 hb.size, h.2.2.below (hb.mono h.1.size)⟩
theorem KeptPacked.drew {W w : World} {n m : Int} {s : Value} {ws : List Nat} (h : KeptPacked W n m s ws w) : KeptPacked W n m s ws w.drew := h.next (Below.refl _ _).drew
set_option maxHeartbeats 400000 in
theorem packMays_walk (v : Value) (w : World) (h : ∃ n m ws, IsPacked w w.heap.size v n m ws) :
    Calls Try.prog 5 #[v] w fun e w' => e = .returned (.bool true) ∧ Below w.heap.size w w' := by
  obtain ⟨n, m, ws, h⟩ := h
  have h' := h
  obtain ⟨s, rfl, hi, hi', hs⟩ := h'
  have HK : Hid (KeptPacked w n m s ws (w.alloc (.cells #[.int .i64 n, .int .i64 m, s] 31))) :=
    Lib.hid ⟨(Below.refl _ _).alloc (Nat.le_refl _) _, by simp, h.below ((Below.refl _ _).alloc (Nat.le_refl _) _)⟩
  clear h hi hi' hs
  go_enter Try.func5, Try.ntmps5
  go_wp2_with fail
  have c0 : (w.alloc (.cells #[.int .i64 n, .int .i64 m, s] 31)).drew.cell? ⟨w.heap.size, 0, none⟩ = some (.int .i64 n) := by simp
  have c1 : (w.alloc (.cells #[.int .i64 n, .int .i64 m, s] 31)).drew.cell? ⟨w.heap.size, 1, none⟩ = some (.int .i64 m) := by simp
  have c2 : (w.alloc (.cells #[.int .i64 n, .int .i64 m, s] 31)).drew.cell? ⟨w.heap.size, 2, none⟩ = some s := by simp
  have HD : Hid (KeptPacked w n m s ws (w.alloc (.cells #[.int .i64 n, .int .i64 m, s] 31)).drew) := Lib.hid HK.out.drew
  go_region_held3 (fun w' => w'.cell? ⟨w.heap.size, 0, none⟩ = some (.int .i64 n) ∧ w'.cell? ⟨w.heap.size, 1, none⟩ = some (.int .i64 m) ∧ w'.cell? ⟨w.heap.size, 2, none⟩ = some s ∧ Hid (KeptPacked w n m s ws w'))
    (first | exact ⟨c0, c1, c2, HD⟩ | exact ⟨by assumption, by assumption, by assumption, by assumption⟩)
    (first
      | (go_at_call 17; refine (packMay_any _ n m ws _ w.heap.size (Hid.out (by assumption : Hid (KeptPacked w n m s ws _))).1.size (Hid.out (by assumption : Hid (KeptPacked w n m s ws _))).2.2).mono ?_; rintro e w1 ⟨rfl, hb⟩; have hk1 := Lib.hid ((Hid.out (by assumption : Hid (KeptPacked w n m s ws _))).next hb); have d0 := (hb.cell (p := ⟨w.heap.size, 0, none⟩) (Hid.out (by assumption : Hid (KeptPacked w n m s ws _))).2.1).trans (by assumption); have d1 := (hb.cell (p := ⟨w.heap.size, 1, none⟩) (Hid.out (by assumption : Hid (KeptPacked w n m s ws _))).2.1).trans (by assumption); have d2 := (hb.cell (p := ⟨w.heap.size, 2, none⟩) (Hid.out (by assumption : Hid (KeptPacked w n m s ws _))).2.1).trans (by assumption); clear hb)
      | (go_at_call 18; refine (refPackMay_any _ n m ws _ w.heap.size (Hid.out (by assumption : Hid (KeptPacked w n m s ws _))).1.size (Hid.out (by assumption : Hid (KeptPacked w n m s ws _))).2.2).mono ?_; rintro e w2 ⟨rfl, hb⟩; have hk2 := Lib.hid ((Hid.out (by assumption : Hid (KeptPacked w n m s ws _))).next hb); have e0 := (hb.cell (p := ⟨w.heap.size, 0, none⟩) (Hid.out (by assumption : Hid (KeptPacked w n m s ws _))).2.1).trans (by assumption); have e1 := (hb.cell (p := ⟨w.heap.size, 1, none⟩) (Hid.out (by assumption : Hid (KeptPacked w n m s ws _))).2.1).trans (by assumption); have e2 := (hb.cell (p := ⟨w.heap.size, 2, none⟩) (Hid.out (by assumption : Hid (KeptPacked w n m s ws _))).2.1).trans (by assumption); clear hb))
  go_wp2
  go_ret
  exact ⟨rfl, hk2.out.1⟩
end Go.Proofs.Ytihiiabibcogjaa
