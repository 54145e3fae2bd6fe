/-
  Contracts of the reference's within with the order by X and Y (with its closures). Conditions: the points can be read as data; they are at most 150.
-/
import Derived.Test.YtlojecajonhmhaaDoorMSkySkies30
set_option linter.unusedVariables false
set_option linter.unusedSimpArgs false
namespace Go.Dam
open Go Go.RowKit
/-- Points, compared. -/
def ltS (x0 y0 z0 x1 y1 z1 : Int) : Bool := decide (x0 < x1) || (decide (x0 = x1) && decide (y0 < y1))
/-- Places, by their points. -/
def ltPS (l : List Int) (x y : Int) : Bool := ltS (l.getD (x.toNat * 3) 0) (l.getD (x.toNat * 3 + 1) 0) (l.getD (x.toNat * 3 + 2) 0) (l.getD (y.toNat * 3) 0) (l.getD (y.toNat * 3 + 1) 0) (l.getD (y.toNat * 3 + 2) 0)
end Go.Dam
namespace Go.Proofs.YtlojecajonhmhaaDoor
open Go Go.RowKit Go.Dam
set_option linter.unusedVariables false
section
variable (x0 y0 z0 x1 y1 z1 : Int) (w : World)
set_option maxHeartbeats 1000000 in
theorem repSLess_any : Calls Tryd.prog 27 #[.agg #[.int .i64 x0, .int .i64 y0, .int .i64 z0], .agg #[.int .i64 x1, .int .i64 y1, .int .i64 z1]] w fun e w' => e = .returned (.bool (ltS x0 y0 z0 x1 y1 z1)) ∧ (∃ q os, w' = Sort.grow (w.drewN q) os) ∧ Below w.heap.size w w' := by
  have HB0 := Lib.hid (((Below.refl w.heap.size w).alloc (Nat.le_refl _) (.cells #[.int .i64 x0, .int .i64 y0, .int .i64 z0] 46)).alloc (by simp) (.cells #[.int .i64 x1, .int .i64 y1, .int .i64 z1] 46))
  have HG : Hid (∃ q os, (w.alloc (.cells #[.int .i64 x0, .int .i64 y0, .int .i64 z0] 46)).alloc (.cells #[.int .i64 x1, .int .i64 y1, .int .i64 z1] 46) = Sort.grow (w.drewN q) os) := Lib.hid ⟨0, _, by rw [Sort.alloc_eq_grow, Sort.alloc_eq_grow, Sort.grow_grow]; rfl⟩
  obtain ⟨q, hq⟩ : ∃ q, ltS x0 y0 z0 x1 y1 z1 = q := ⟨_, rfl⟩
  by_cases h1 : x0 < x1
  · obtain rfl : true = q := by rw [← hq]; unfold ltS; simp [h1]
    have t1 : decide (x0 < x1) = true := decide_eq_true h1
    rw [hq]; clear hq
    go_enter Tryd.func27, Tryd.ntmps27
    go_wp2_with fail
    go_ret
    exact ⟨rfl, HG.out, HB0.out⟩
  have t1 : decide (x0 < x1) = false := decide_eq_false h1
  by_cases h2 : x0 = x1
  rotate_left
  · obtain rfl : false = q := by rw [← hq]; unfold ltS; simp [h1, h2]
    have t2 : (x0 == x1) = false := beq_eq_false_iff_ne.2 h2
    rw [hq]; clear hq
    go_enter Tryd.func27, Tryd.ntmps27
    go_wp2_with fail
    go_ret
    exact ⟨rfl, HG.out, HB0.out⟩
  · have hq2 : decide (y0 < y1) = q := by rw [← hq]; unfold ltS; simp [h2]
    have t2 : (x0 == x1) = true := beq_iff_eq.2 h2
    have HE := Lib.hid h2
    rw [hq]; clear hq h2
    cases q with
    | true =>
      have h4 : y0 < y1 := of_decide_eq_true hq2
      go_enter Tryd.func27, Tryd.ntmps27
      go_wp2_with fail
      go_ret
      exact ⟨ret_bool (by simp [h4]), HG.out, HB0.out⟩
    | false =>
      have h4 : ¬ y0 < y1 := of_decide_eq_false hq2
      go_enter Tryd.func27, Tryd.ntmps27
      go_wp2_with fail
      go_ret
      exact ⟨ret_bool (by simp [h4]), HG.out, HB0.out⟩
end
set_option maxHeartbeats 4000000 in
theorem repSWithinLess_any (i j pi pj m co n c bk off ob k0 k1 k2 : Nat) (x0 y0 z0 x1 y1 z1 : Int) (w : World) (hi : i < m) (hj : j < m) (hm : m ≤ 150) (hpi : pi < n) (hpj : pj < n) (hn : n ≤ 150)
    (b0 : w.cell? ⟨k0, 0, none⟩ = some (.func (.func 27) #[] #[])) (b1 : w.cell? ⟨k1, 0, none⟩ = some (.slice (some ⟨bk, off, none⟩) n c)) (b2 : w.cell? ⟨k2, 0, none⟩ = some (.slice (some ⟨ob, 0, none⟩) m co))
    (o0 : w.cell? ⟨ob, i, none⟩ = some (.int .i64 pi)) (o1 : w.cell? ⟨ob, j, none⟩ = some (.int .i64 pj))
    (c0 : w.cell? ⟨bk, off + pi * 3, none⟩ = some (.int .i64 x0)) (c1 : w.cell? ⟨bk, off + pi * 3 + 1, none⟩ = some (.int .i64 y0)) (c2 : w.cell? ⟨bk, off + pi * 3 + 2, none⟩ = some (.int .i64 z0))
    (d0 : w.cell? ⟨bk, off + pj * 3, none⟩ = some (.int .i64 x1)) (d1 : w.cell? ⟨bk, off + pj * 3 + 1, none⟩ = some (.int .i64 y1)) (d2 : w.cell? ⟨bk, off + pj * 3 + 2, none⟩ = some (.int .i64 z1)) :
    Calls Tryd.prog 50 #[.int .i64 i, .int .i64 j, .pointer (some ⟨k0, 0, none⟩), .pointer (some ⟨k1, 0, none⟩), .pointer (some ⟨k2, 0, none⟩)] w fun e w' => e = .returned (.bool (ltS x0 y0 z0 x1 y1 z1)) ∧ ∃ q os, w' = Sort.grow (w.drewN q) os := by
  have i1 : (i : Int) < (m : Int) := by omega
  have j1 : (j : Int) < (m : Int) := by omega
  have i2 : (pi : Int) < (n : Int) := by omega
  have j2 : (pj : Int) < (n : Int) := by omega
  have HL := Lib.hid repSLess_any
  go_enter Tryd.func50, Tryd.ntmps50
  go_wp2_with fail
  go_region_held3 (fun w' => w'.cell? ⟨k0, 0, none⟩ = some (.func (.func 27) #[] #[]) ∧ w'.cell? ⟨k1, 0, none⟩ = some (.slice (some ⟨bk, off, none⟩) n c) ∧ w'.cell? ⟨k2, 0, none⟩ = some (.slice (some ⟨ob, 0, none⟩) m co) ∧ w'.cell? ⟨ob, i, none⟩ = some (.int .i64 pi) ∧ w'.cell? ⟨ob, j, none⟩ = some (.int .i64 pj) ∧ w'.cell? ⟨bk, off + pi * 3, none⟩ = some (.int .i64 x0) ∧ w'.cell? ⟨bk, off + pi * 3 + 1, none⟩ = some (.int .i64 y0) ∧ w'.cell? ⟨bk, off + pi * 3 + 2, none⟩ = some (.int .i64 z0) ∧ w'.cell? ⟨bk, off + pj * 3, none⟩ = some (.int .i64 x1) ∧ w'.cell? ⟨bk, off + pj * 3 + 1, none⟩ = some (.int .i64 y1) ∧ w'.cell? ⟨bk, off + pj * 3 + 2, none⟩ = some (.int .i64 z1))
    (first
      | exact ⟨b0, b1, b2, o0, o1, c0, c1, c2, d0, d1, d2⟩
      | exact ⟨kept_grow b0, kept_grow b1, kept_grow b2, kept_grow o0, kept_grow o1, kept_grow c0, kept_grow c1, kept_grow c2, kept_grow d0, kept_grow d1, kept_grow d2⟩)
    (first
      | (go_at_call 27; refine (HL.out _ _ _ _ _ _ _).mono ?_; rintro e w' ⟨rfl, ⟨q, os, rfl⟩, hbi⟩))
  all_goals go_wp2_with fail
  all_goals go_ret
  all_goals exact ⟨rfl, _, _, rfl⟩
end Go.Proofs.YtlojecajonhmhaaDoor
