/-
  Contract of the reference's PointsFault: what is refused of points. Conditions: the points can be read as data.
-/
import Derived.Test.YthiccmncdmohbaaMHullInsides22
import Derived.Test.YthiccmncdmohbaaMHullInsides19
set_option linter.unusedVariables false
set_option linter.unusedSimpArgs false
namespace Go.Proofs.Ythiccmncdmohbaa
open Go Go.RowKit Go.Dam
set_option linter.unusedVariables false
set_option maxHeartbeats 4000000 in
theorem pointsFault_any (v : Value) (n : Nat) (l : List Int) (w : World) (B : Nat) (hB : B ≤ w.heap.size) (h : IsFlat 3 w B v n l) :
    Calls Try.prog 38 #[v] w fun e w' => e = .returned (.int .i64 (ptCode n l)) ∧ Below w.heap.size w w' := by
  obtain ⟨A, c, rfl, hc, hm, hn, hl, hr, hw⟩ := h
  by_cases c1 : 150 < n
  · have HK := Lib.hid (ptCode_1 (l := l) c1)
    clear hr hw hl
    go_enter Try.func38, Try.ntmps38
    go_wp2_with fail
    go_ret
    exact ⟨ret_int HK.out.symm, Below.refl _ _⟩
  have HK1 := Lib.hid fun h => ptCode_2 (l := l) c1 h
  have HK0 := Lib.hid fun h => ptCode_0 (l := l) c1 h
  go_enter Try.func38, Try.ntmps38
  go_wp2_with fail
  go_loopw [10] (fun iv wr => ∃ i : Nat, i ≤ n ∧ iv = .int .i64 i ∧ (∀ j, j < i → badPt l j = false) ∧ Below w.heap.size w wr) (fun iv _ => n - (intOf iv).toNat)
  case atStart => exact ⟨0, by omega, rfl, fun j hj => absurd hj (by omega), Below.refl _ _⟩
  case round =>
    obtain ⟨i, hi, rfl, hno, hbel⟩ := hrel
    by_cases hlt : i < n
    · obtain ⟨b, off, rfl, hb, hcells⟩ := flat_cells hr hl (by omega) (by omega)
      have c0 := (hbel.cell (p := ⟨b, off + i * 3, none⟩) (by simp; omega)).trans (hcells (i * 3) (by omega))
      have c1 := (hbel.cell (p := ⟨b, off + i * 3 + 1, none⟩) (by simp; omega)).trans (hcells (i * 3 + 1) (by omega))
      have c2 := (hbel.cell (p := ⟨b, off + i * 3 + 2, none⟩) (by simp; omega)).trans (hcells (i * 3 + 2) (by omega))
      have HB := Lib.hid hbel
      have HY := Lib.hid fun hp => HK1.out (anyN_yes (p := badPt l) hlt hp)
      have HN := Lib.hid fun hp => no_step (p := badPt l) hno hp
      obtain ⟨bb, hbb⟩ : ∃ bb, badPt l i = bb := ⟨_, rfl⟩
      have hh := (badPt_eq l i).trans hbb
      clear hcells hno hbel
      generalize l.getD (i * 3) 0 = x0 at *
      generalize l.getD (i * 3 + 1) 0 = x1 at *
      generalize l.getD (i * 3 + 2) 0 = x2 at *
      have H0 := fun b h => Lib.hid fun W => coordMay_any x0 b W h
      have H1 := fun b h => Lib.hid fun W => coordMay_any x1 b W h
      have H2 := fun b h => Lib.hid fun W => coordMay_any x2 b W h
      cases g0 : coordOk x0 with
      | false =>
        obtain rfl : true = bb := by rw [g0] at hh; exact hh
        have H0 := H0 _ g0
        have HF := Lib.hid (HY.out hbb)
        clear H1 H2 hh hbb g0
        go_wp2_with (go_at_call 39; with_reducible refine (H0.out _).mono ?_; rintro e w1 ⟨rfl, rfl⟩)
        go_ret
        exact ⟨ret_int HF.out.symm, HB.out.alloc HB.out.size _⟩
      | true =>
      cases g1 : coordOk x1 with
      | false =>
        obtain rfl : true = bb := by rw [g0, g1] at hh; exact hh
        have H0 := H0 _ g0
        have H1 := H1 _ g1
        have HF := Lib.hid (HY.out hbb)
        clear H2 hh hbb g0 g1
        go_wp2_with (go_at_call 39; (first | with_reducible refine (H0.out _).mono ?_ | with_reducible refine (H1.out _).mono ?_); rintro e w1 ⟨rfl, rfl⟩)
        go_ret
        exact ⟨ret_int HF.out.symm, HB.out.alloc HB.out.size _⟩
      | true =>
      cases g2 : coordOk x2 with
      | false =>
        obtain rfl : true = bb := by rw [g0, g1, g2] at hh; exact hh
        have H0 := H0 _ g0
        have H1 := H1 _ g1
        have H2 := H2 _ g2
        have HF := Lib.hid (HY.out hbb)
        clear hh hbb g0 g1 g2
        go_wp2_with (go_at_call 39; (first | with_reducible refine (H0.out _).mono ?_ | with_reducible refine (H1.out _).mono ?_ | with_reducible refine (H2.out _).mono ?_); rintro e w1 ⟨rfl, rfl⟩)
        go_ret
        exact ⟨ret_int HF.out.symm, HB.out.alloc HB.out.size _⟩
      | true =>
        obtain rfl : false = bb := by rw [g0, g1, g2] at hh; exact hh
        have H0 := H0 _ g0
        have H1 := H1 _ g1
        have H2 := H2 _ g2
        have HF := Lib.hid (HN.out hbb)
        clear hh hbb g0 g1 g2
        go_wp2_with (go_at_call 39; (first | with_reducible refine (H0.out _).mono ?_ | with_reducible refine (H1.out _).mono ?_ | with_reducible refine (H2.out _).mono ?_); rintro e w1 ⟨rfl, rfl⟩)
        go_roundw
        case rel => exact ⟨i + 1, by omega, by go_num, HF.out, HB.out.alloc HB.out.size _⟩
        case measure => simp [intOf]; omega
    · obtain rfl : i = n := by omega
      have HF := Lib.hid (HK0.out (anyN_no hno))
      have HB := Lib.hid hbel
      clear hno hbel
      go_wp2
      go_ret
      exact ⟨ret_int HF.out.symm, HB.out⟩
end Go.Proofs.Ythiccmncdmohbaa
