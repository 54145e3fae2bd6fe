/-
  Texts of one claim behind each other. Conditions: none of its own.
-/
import Derived.Test.YthiccmncdmohbaaGreatMGridTops03
import Derived.Test.YthiccmncdmohbaaGreatMGridTops04
import Derived.Test.YthiccmncdmohbaaGreatMGridTops00
import Derived.Test.YthiccmncdmohbaaGreatMGridTops12
set_option linter.unusedVariables false
set_option linter.unusedSimpArgs false
/-
  Contracts of the tests whether a point lies in a rectangle: package grid's and the reference's. Conditions: none.
-/
namespace Go.Dam
open Go Go.RowKit
/-- Does a point lie in a rectangle? -/
def inR (x y x0 y0 x1 y1 : Int) : Bool := decide (x0 ≤ x) && decide (x ≤ x1) && decide (y0 ≤ y) && decide (y ≤ y1)
end Go.Dam
namespace Go.Proofs.YthiccmncdmohbaaGreat
open Go Go.RowKit Go.Dam
set_option linter.unusedVariables false
section
variable (x y z x0 y0 x1 y1 : Int) (w : World)
set_option maxHeartbeats 1000000 in
theorem gridIn_any : Calls Tryz.prog 32 #[.agg #[.int .i64 x, .int .i64 y, .int .i64 z], .agg #[.int .i64 x0, .int .i64 y0, .int .i64 x1, .int .i64 y1]] w fun e w' => e = .returned (.bool (inR x y x0 y0 x1 y1)) ∧ Below w.heap.size w w' := by
  have HB0 := Lib.hid (((Below.refl w.heap.size w).alloc (Nat.le_refl _) (.cells #[.int .i64 x, .int .i64 y, .int .i64 z] 41)).alloc (by simp) (.cells #[.int .i64 x0, .int .i64 y0, .int .i64 x1, .int .i64 y1] 24))
  obtain ⟨q, hq⟩ : ∃ q, inR x y x0 y0 x1 y1 = q := ⟨_, rfl⟩
  by_cases h1 : x0 ≤ x
  rotate_left
  · obtain rfl : false = q := by rw [← hq]; unfold inR; simp [h1]
    have t1 : decide (x0 ≤ x) = false := decide_eq_false h1
    rw [hq]; clear hq
    go_enter Tryz.func32, Tryz.ntmps32
    go_wp2_with fail
    go_ret
    exact ⟨rfl, HB0.out⟩
  by_cases h2 : x ≤ x1
  rotate_left
  · obtain rfl : false = q := by rw [← hq]; unfold inR; simp [h2]
    have t1 : decide (x0 ≤ x) = true := decide_eq_true h1
    have t2 : decide (x ≤ x1) = false := decide_eq_false h2
    rw [hq]; clear hq
    go_enter Tryz.func32, Tryz.ntmps32
    go_wp2_with fail
    go_ret
    exact ⟨rfl, HB0.out⟩
  by_cases h3 : y0 ≤ y
  rotate_left
  · obtain rfl : false = q := by rw [← hq]; unfold inR; simp [h3]
    have t1 : decide (x0 ≤ x) = true := decide_eq_true h1
    have t2 : decide (x ≤ x1) = true := decide_eq_true h2
    have t3 : decide (y0 ≤ y) = false := decide_eq_false h3
    rw [hq]; clear hq
    go_enter Tryz.func32, Tryz.ntmps32
    go_wp2_with fail
    go_ret
    exact ⟨rfl, HB0.out⟩
  · have hq2 : decide (y ≤ y1) = q := by rw [← hq]; unfold inR; simp [h1, h2, h3]
    rw [hq]; clear hq
    cases q with
    | true =>
      have h4 : y ≤ y1 := of_decide_eq_true hq2
      have t1 : decide (x0 ≤ x) = true := decide_eq_true h1
      have t2 : decide (x ≤ x1) = true := decide_eq_true h2
      have t3 : decide (y0 ≤ y) = true := decide_eq_true h3
      go_enter Tryz.func32, Tryz.ntmps32
      go_wp2_with fail
      go_ret
      exact ⟨ret_bool (by simp [h4]), HB0.out⟩
    | false =>
      have h4 : ¬ y ≤ y1 := of_decide_eq_false hq2
      have t1 : decide (x0 ≤ x) = true := decide_eq_true h1
      have t2 : decide (x ≤ x1) = true := decide_eq_true h2
      have t3 : decide (y0 ≤ y) = true := decide_eq_true h3
      go_enter Tryz.func32, Tryz.ntmps32
      go_wp2_with fail
      go_ret
      exact ⟨ret_bool (by simp [h4]), HB0.out⟩
set_option maxHeartbeats 1000000 in
theorem refPointIn_any : Calls Tryz.prog 19 #[.agg #[.int .i64 x, .int .i64 y, .int .i64 z], .agg #[.int .i64 x0, .int .i64 y0, .int .i64 x1, .int .i64 y1]] w fun e w' => e = .returned (.bool (inR x y x0 y0 x1 y1)) ∧ Below w.heap.size w w' := by
  have HB0 := Lib.hid (((Below.refl w.heap.size w).alloc (Nat.le_refl _) (.cells #[.int .i64 x, .int .i64 y, .int .i64 z] 41)).alloc (by simp) (.cells #[.int .i64 x0, .int .i64 y0, .int .i64 x1, .int .i64 y1] 24))
  obtain ⟨q, hq⟩ : ∃ q, inR x y x0 y0 x1 y1 = q := ⟨_, rfl⟩
  by_cases h1 : x0 ≤ x
  rotate_left
  · obtain rfl : false = q := by rw [← hq]; unfold inR; simp [h1]
    have t1 : decide (x0 ≤ x) = false := decide_eq_false h1
    rw [hq]; clear hq
    go_enter Tryz.func19, Tryz.ntmps19
    go_wp2_with fail
    go_ret
    exact ⟨rfl, HB0.out⟩
  by_cases h2 : x ≤ x1
  rotate_left
  · obtain rfl : false = q := by rw [← hq]; unfold inR; simp [h2]
    have t1 : decide (x0 ≤ x) = true := decide_eq_true h1
    have t2 : decide (x ≤ x1) = false := decide_eq_false h2
    rw [hq]; clear hq
    go_enter Tryz.func19, Tryz.ntmps19
    go_wp2_with fail
    go_ret
    exact ⟨rfl, HB0.out⟩
  by_cases h3 : y0 ≤ y
  rotate_left
  · obtain rfl : false = q := by rw [← hq]; unfold inR; simp [h3]
    have t1 : decide (x0 ≤ x) = true := decide_eq_true h1
    have t2 : decide (x ≤ x1) = true := decide_eq_true h2
    have t3 : decide (y0 ≤ y) = false := decide_eq_false h3
    rw [hq]; clear hq
    go_enter Tryz.func19, Tryz.ntmps19
    go_wp2_with fail
    go_ret
    exact ⟨rfl, HB0.out⟩
  · have hq2 : decide (y ≤ y1) = q := by rw [← hq]; unfold inR; simp [h1, h2, h3]
    rw [hq]; clear hq
    cases q with
    | true =>
      have h4 : y ≤ y1 := of_decide_eq_true hq2
      have t1 : decide (x0 ≤ x) = true := decide_eq_true h1
      have t2 : decide (x ≤ x1) = true := decide_eq_true h2
      have t3 : decide (y0 ≤ y) = true := decide_eq_true h3
      go_enter Tryz.func19, Tryz.ntmps19
      go_wp2_with fail
      go_ret
      exact ⟨ret_bool (by simp [h4]), HB0.out⟩
    | false =>
      have h4 : ¬ y ≤ y1 := of_decide_eq_false hq2
      have t1 : decide (x0 ≤ x) = true := decide_eq_true h1
      have t2 : decide (x ≤ x1) = true := decide_eq_true h2
      have t3 : decide (y0 ≤ y) = true := decide_eq_true h3
      go_enter Tryz.func19, Tryz.ntmps19
      go_wp2_with fail
      go_ret
      exact ⟨ret_bool (by simp [h4]), HB0.out⟩
end
end Go.Proofs.YthiccmncdmohbaaGreat

/-
  Contract of the reference's coordMay: is a coordinate not too great? Conditions: the argument is an int.
-/
namespace Go.Proofs.YthiccmncdmohbaaGreat
open Go Go.RowKit Go.Dam
set_option linter.unusedVariables false
set_option maxHeartbeats 400000 in
theorem coordMay_any (x : Int) (b : Bool) (w : World) (h : coordOk x = b) : Calls Tryz.prog 18 #[.int .i64 x] w fun e w' => e = .returned (.bool b) ∧ w = w' := by
  cases b with
  | true =>
    obtain ⟨h1, h2⟩ := coordOk_yes h
    clear h
    go_enter Tryz.func18, Tryz.ntmps18
    go_wp2
    go_ret
    exact ⟨ret_bool (by simp <;> omega), rfl⟩
  | false =>
    have h1 := coordOk_no h
    clear h
    by_cases h2 : x < -1048576
    · clear h1
      go_enter Tryz.func18, Tryz.ntmps18
      go_wp2
      go_ret
      exact ⟨ret_bool (by simp <;> omega), rfl⟩
    · have h3 : 1048576 < x := by omega
      clear h1
      go_enter Tryz.func18, Tryz.ntmps18
      go_wp2
      go_ret
      exact ⟨ret_bool (by simp <;> omega), rfl⟩
end Go.Proofs.YthiccmncdmohbaaGreat

/-
  Contract of the reference's PointsFault: what is refused of points. Conditions: the points can be read as data.
-/
namespace Go.Proofs.YthiccmncdmohbaaGreat
open Go Go.RowKit Go.Dam
set_option linter.unusedVariables false
set_option maxHeartbeats 4000000 in
theorem pointsFault_any (v : Value) (n : Nat) (l : List Int) (w : World) (B : Nat) (hB : B ≤ w.heap.size) (h : IsFlat 3 w B v n l) :
    Calls Tryz.prog 11 #[v] w fun e w' => e = .returned (.int .i64 (ptCode n l)) ∧ Below w.heap.size w w' := by
  obtain ⟨A, c, rfl, hc, hm, hn, hl, hr, hw⟩ := h
  by_cases c1 : 150 < n
  · have HK := Lib.hid (ptCode_1 (l := l) c1)
    clear hr hw hl
    go_enter Tryz.func11, Tryz.ntmps11
    go_wp2_with fail
    go_ret
    exact ⟨ret_int HK.out.symm, Below.refl _ _⟩
  have HK1 := Lib.hid fun h => ptCode_2 (l := l) c1 h
  have HK0 := Lib.hid fun h => ptCode_0 (l := l) c1 h
  go_enter Tryz.func11, Tryz.ntmps11
  go_wp2_with fail
  go_loopw [10] (fun iv wr => ∃ i : Nat, i ≤ n ∧ iv = .int .i64 i ∧ (∀ j, j < i → badPt l j = false) ∧ Below w.heap.size w wr) (fun iv _ => n - (intOf iv).toNat)
  case atStart => exact ⟨0, by omega, rfl, fun j hj => absurd hj (by omega), Below.refl _ _⟩
  case round =>
    obtain ⟨i, hi, rfl, hno, hbel⟩ := hrel
    by_cases hlt : i < n
    · obtain ⟨b, off, rfl, hb, hcells⟩ := flat_cells hr hl (by omega) (by omega)
      have c0 := (hbel.cell (p := ⟨b, off + i * 3, none⟩) (by simp; omega)).trans (hcells (i * 3) (by omega))
      have c1 := (hbel.cell (p := ⟨b, off + i * 3 + 1, none⟩) (by simp; omega)).trans (hcells (i * 3 + 1) (by omega))
      have c2 := (hbel.cell (p := ⟨b, off + i * 3 + 2, none⟩) (by simp; omega)).trans (hcells (i * 3 + 2) (by omega))
      have HB := Lib.hid hbel
      have HY := Lib.hid fun hp => HK1.out (anyN_yes (p := badPt l) hlt hp)
      have HN := Lib.hid fun hp => no_step (p := badPt l) hno hp
      obtain ⟨bb, hbb⟩ : ∃ bb, badPt l i = bb := ⟨_, rfl⟩
      have hh := (badPt_eq l i).trans hbb
      clear hcells hno hbel
      generalize l.getD (i * 3) 0 = x0 at *
      generalize l.getD (i * 3 + 1) 0 = x1 at *
      generalize l.getD (i * 3 + 2) 0 = x2 at *
      have H0 := fun b h => Lib.hid fun W => coordMay_any x0 b W h
      have H1 := fun b h => Lib.hid fun W => coordMay_any x1 b W h
      have H2 := fun b h => Lib.hid fun W => coordMay_any x2 b W h
      cases g0 : coordOk x0 with
      | false =>
        obtain rfl : true = bb := by rw [g0] at hh; exact hh
        have H0 := H0 _ g0
        have HF := Lib.hid (HY.out hbb)
        clear H1 H2 hh hbb g0
        go_wp2_with (go_at_call 18; with_reducible refine (H0.out _).mono ?_; rintro e w1 ⟨rfl, rfl⟩)
        go_ret
        exact ⟨ret_int HF.out.symm, HB.out.alloc HB.out.size _⟩
      | true =>
      cases g1 : coordOk x1 with
      | false =>
        obtain rfl : true = bb := by rw [g0, g1] at hh; exact hh
        have H0 := H0 _ g0
        have H1 := H1 _ g1
        have HF := Lib.hid (HY.out hbb)
        clear H2 hh hbb g0 g1
        go_wp2_with (go_at_call 18; (first | with_reducible refine (H0.out _).mono ?_ | with_reducible refine (H1.out _).mono ?_); rintro e w1 ⟨rfl, rfl⟩)
        go_ret
        exact ⟨ret_int HF.out.symm, HB.out.alloc HB.out.size _⟩
      | true =>
      cases g2 : coordOk x2 with
      | false =>
        obtain rfl : true = bb := by rw [g0, g1, g2] at hh; exact hh
        have H0 := H0 _ g0
        have H1 := H1 _ g1
        have H2 := H2 _ g2
        have HF := Lib.hid (HY.out hbb)
        clear hh hbb g0 g1 g2
        go_wp2_with (go_at_call 18; (first | with_reducible refine (H0.out _).mono ?_ | with_reducible refine (H1.out _).mono ?_ | with_reducible refine (H2.out _).mono ?_); rintro e w1 ⟨rfl, rfl⟩)
        go_ret
        exact ⟨ret_int HF.out.symm, HB.out.alloc HB.out.size _⟩
      | true =>
        obtain rfl : false = bb := by rw [g0, g1, g2] at hh; exact hh
        have H0 := H0 _ g0
        have H1 := H1 _ g1
        have H2 := H2 _ g2
        have HF := Lib.hid (HN.out hbb)
        clear hh hbb g0 g1 g2
        go_wp2_with (go_at_call 18; (first | with_reducible refine (H0.out _).mono ?_ | with_reducible refine (H1.out _).mono ?_ | with_reducible refine (H2.out _).mono ?_); rintro e w1 ⟨rfl, rfl⟩)
        go_roundw
        case rel => exact ⟨i + 1, by omega, by go_num, HF.out, HB.out.alloc HB.out.size _⟩
        case measure => simp [intOf]; omega
    · obtain rfl : i = n := by omega
      have HF := Lib.hid (HK0.out (anyN_no hno))
      have HB := Lib.hid hbel
      clear hno hbel
      go_wp2
      go_ret
      exact ⟨ret_int HF.out.symm, HB.out⟩
end Go.Proofs.YthiccmncdmohbaaGreat
