/-
  Contract of grid.Check (with near, its test and the library's ContainsFunc and IndexFunc): what is refused of points. Conditions: the points can be read as data.
-/
import Derived.Test.YthiccmncdmohbaaMHullInsides03
import Derived.Test.YthiccmncdmohbaaMHullInsides00
set_option linter.unusedVariables false
set_option linter.unusedSimpArgs false
namespace Go.Dam
/-- Is element i refused? -/
def badPt (l : List Int) (i : Nat) : Bool := (!(coordOk (l.getD (i * 3) 0) && (coordOk (l.getD (i * 3 + 1) 0) && (coordOk (l.getD (i * 3 + 2) 0)))))
theorem badPt_eq (l : List Int) (i : Nat) : (!(coordOk (l.getD (i * 3) 0) && (coordOk (l.getD (i * 3 + 1) 0) && (coordOk (l.getD (i * 3 + 2) 0))))) = badPt l i := by unfold badPt; rfl
/-- The code of the refusal. -/
def ptCode (n : Nat) (l : List Int) : Int := if 150 < n then 1 else if anyN (badPt l) n = true then 2 else 0
theorem ptCode_1 {n : Nat} {l : List Int} (h : 150 < n) : ptCode n l = 1 := by unfold ptCode; rw [if_pos h]
theorem ptCode_2 {n : Nat} {l : List Int} (h : ¬ 150 < n) (h2 : anyN (badPt l) n = true) : ptCode n l = 2 := by unfold ptCode; rw [if_neg h, if_pos h2]
theorem ptCode_0 {n : Nat} {l : List Int} (h : ¬ 150 < n) (h2 : anyN (badPt l) n = false) : ptCode n l = 0 := by unfold ptCode; rw [if_neg h, h2]; rfl
theorem ptCode_ok {n : Nat} {l : List Int} (h : ptCode n l = 0) : n ≤ 150 ∧ ∀ i, i < n → badPt l i = false := by
  unfold ptCode at h
  split at h
  · cases h
  · split at h
    · cases h
    · rename_i h1 h2
      exact ⟨by omega, anyN_false (by simpa using h2)⟩
theorem ptCode_cases (n : Nat) (l : List Int) : ptCode n l = 0 ∨ ptCode n l = 1 ∨ ptCode n l = 2 := by
  unfold ptCode; split
  · exact .inr (.inl rfl)
  · split
    · exact .inr (.inr rfl)
    · exact .inl rfl
theorem badPt_fine {l : List Int} {i : Nat} (h : badPt l i = false) : (-1048576 ≤ l.getD (i * 3) 0 ∧ l.getD (i * 3) 0 ≤ 1048576) ∧ (-1048576 ≤ l.getD (i * 3 + 1) 0 ∧ l.getD (i * 3 + 1) 0 ≤ 1048576) ∧ (-1048576 ≤ l.getD (i * 3 + 2) 0 ∧ l.getD (i * 3 + 2) 0 ≤ 1048576) := by
  unfold badPt at h
  simp only [Bool.not_eq_false', Bool.and_eq_true, decide_eq_true_eq] at h
  obtain ⟨h0, h1, h2⟩ := h
  exact ⟨coordOk_yes h0, coordOk_yes h1, coordOk_yes h2⟩
attribute [irreducible] badPt ptCode
end Go.Dam
namespace Go.Proofs.Ythiccmncdmohbaa
open Go Go.RowKit Go.Dam
set_option linter.unusedVariables false
set_option maxHeartbeats 400000 in
theorem gridNear_any (x : Int) (b : Bool) (w : World) (h : coordOk x = b) : Calls Try.prog 60 #[.int .i64 x] w fun e w' => e = .returned (.bool b) ∧ w = w' := by
  cases b with
  | true =>
    obtain ⟨h1, h2⟩ := coordOk_yes h
    clear h
    go_enter Try.func60, Try.ntmps60
    go_wp2
    go_ret
    exact ⟨ret_bool (by simp <;> omega), rfl⟩
  | false =>
    have h1 := coordOk_no h
    clear h
    by_cases h2 : x < -1048576
    · clear h1
      go_enter Try.func60, Try.ntmps60
      go_wp2
      go_ret
      exact ⟨ret_bool (by simp <;> omega), rfl⟩
    · have h3 : 1048576 < x := by omega
      clear h1
      go_enter Try.func60, Try.ntmps60
      go_wp2
      go_ret
      exact ⟨ret_bool (by simp <;> omega), rfl⟩
set_option maxHeartbeats 1000000 in
theorem gridTest_any (x0 x1 x2 : Int) (b : Bool) (w : World) (hh : (!(coordOk x0 && (coordOk x1 && (coordOk x2)))) = b) :
    Calls Try.prog 59 #[.agg #[.int .i64 x0, .int .i64 x1, .int .i64 x2]] w fun e w' => e = .returned (.bool b) ∧ Below w.heap.size w w' := by
  have H0 := fun b h => Lib.hid fun W => gridNear_any x0 b W h
  have H1 := fun b h => Lib.hid fun W => gridNear_any x1 b W h
  have H2 := fun b h => Lib.hid fun W => gridNear_any x2 b W h
  cases g0 : coordOk x0 with
  | false =>
    obtain rfl : true = b := by rw [g0] at hh; exact hh
    have H0 := H0 _ g0
    clear H1 H2 hh g0
    go_enter Try.func59, Try.ntmps59
    go_wp2_with (go_at_call 60; with_reducible refine (H0.out _).mono ?_; rintro e w1 ⟨rfl, rfl⟩)
    go_ret
    exact ⟨rfl, (Below.refl _ _).alloc (Nat.le_refl _) _⟩
  | true =>
  cases g1 : coordOk x1 with
  | false =>
    obtain rfl : true = b := by rw [g0, g1] at hh; exact hh
    have H0 := H0 _ g0
    have H1 := H1 _ g1
    clear H2 hh g0 g1
    go_enter Try.func59, Try.ntmps59
    go_wp2_with (go_at_call 60; (first | with_reducible refine (H0.out _).mono ?_ | with_reducible refine (H1.out _).mono ?_); rintro e w1 ⟨rfl, rfl⟩)
    go_ret
    exact ⟨rfl, (Below.refl _ _).alloc (Nat.le_refl _) _⟩
  | true =>
  cases g2 : coordOk x2 with
  | false =>
    obtain rfl : true = b := by rw [g0, g1, g2] at hh; exact hh
    have H0 := H0 _ g0
    have H1 := H1 _ g1
    have H2 := H2 _ g2
    clear hh g0 g1 g2
    go_enter Try.func59, Try.ntmps59
    go_wp2_with (go_at_call 60; (first | with_reducible refine (H0.out _).mono ?_ | with_reducible refine (H1.out _).mono ?_ | with_reducible refine (H2.out _).mono ?_); rintro e w1 ⟨rfl, rfl⟩)
    go_ret
    exact ⟨rfl, (Below.refl _ _).alloc (Nat.le_refl _) _⟩
  | true =>
    obtain rfl : false = b := by rw [g0, g1, g2] at hh; exact hh
    have H0 := H0 _ g0
    have H1 := H1 _ g1
    have H2 := H2 _ g2
    clear hh g0 g1 g2
    go_enter Try.func59, Try.ntmps59
    go_wp2_with (go_at_call 60; (first | with_reducible refine (H0.out _).mono ?_ | with_reducible refine (H1.out _).mono ?_ | with_reducible refine (H2.out _).mono ?_); rintro e w1 ⟨rfl, rfl⟩)
    go_ret
    exact ⟨rfl, (Below.refl _ _).alloc (Nat.le_refl _) _⟩
set_option maxHeartbeats 400000 in
theorem gridIndex_any (v : Value) (n : Nat) (l : List Int) (k : Int) (w : World) (B : Nat) (hB : B ≤ w.heap.size) (h : IsFlat 3 w B v n l) (hk : FirstR (badPt l) n k) :
    Calls Try.prog 79 #[v, .func (.func 59) #[] #[]] w fun e w' => e = .returned (.int .i64 k) ∧ Below w.heap.size w w' := by
  obtain ⟨A, c, rfl, hc, hm, hn, hl, hr, hw⟩ := h
  have HK := Lib.hid hk
  clear hk
  go_enter Try.func79, Try.ntmps79
  go_wp2_with fail
  go_loopw [8] (fun iv wr => ∃ i : Nat, i ≤ n ∧ iv = .int .i64 i ∧ (∀ j, j < i → badPt l j = false) ∧ Below w.heap.size w wr) (fun iv _ => n - (intOf iv).toNat)
  case atStart => exact ⟨0, by omega, rfl, fun j hj => absurd hj (by omega), Below.refl _ _⟩
  case round =>
    obtain ⟨i, hi, rfl, hno, hbel⟩ := hrel
    by_cases hlt : i < n
    · obtain ⟨b, off, rfl, hb, hcells⟩ := flat_cells hr hl (by omega) (by omega)
      have c0 := (hbel.cell (p := ⟨b, off + i * 3, none⟩) (by simp; omega)).trans (hcells (i * 3) (by omega))
      have c1 := (hbel.cell (p := ⟨b, off + i * 3 + 1, none⟩) (by simp; omega)).trans (hcells (i * 3 + 1) (by omega))
      have c2 := (hbel.cell (p := ⟨b, off + i * 3 + 2, none⟩) (by simp; omega)).trans (hcells (i * 3 + 2) (by omega))
      have HC := fun W => gridTest_any _ _ _ _ W (badPt_eq l i)
      generalize l.getD (i * 3) 0 = x0 at *
      generalize l.getD (i * 3 + 1) 0 = x1 at *
      generalize l.getD (i * 3 + 2) 0 = x2 at *
      have HB := Lib.hid hbel
      cases hp : badPt l i with
      | true =>
        rw [hp] at HC
        have HC := Lib.hid HC
        have HF : Hid (k = i) := Lib.hid (HK.out.is hlt hp hno)
        clear hcells hno hp hbel
        go_wp2_with (go_at_call 59; refine (HC.out _).mono ?_; rintro e w1 ⟨rfl, hb1⟩)
        go_ret
        exact ⟨ret_int HF.out.symm, HB.out.trans (hb1.mono HB.out.size)⟩
      | false =>
        rw [hp] at HC
        have HC := Lib.hid HC
        have HN := Lib.hid hno
        have HP := Lib.hid hp
        clear hcells hno hp hbel
        go_wp2_with (go_at_call 59; refine (HC.out _).mono ?_; rintro e w1 ⟨rfl, hb1⟩)
        go_roundw
        case rel => exact ⟨i + 1, by omega, by go_num, no_step HN.out HP.out, HB.out.trans (hb1.mono HB.out.size)⟩
        case measure => simp [intOf]; omega
    · obtain rfl : i = n := by omega
      have HF : Hid (k = -1) := Lib.hid (HK.out.none_ hno)
      have HB := Lib.hid hbel
      clear hno hbel
      go_wp2
      go_ret
      exact ⟨ret_int HF.out.symm, HB.out⟩
set_option maxHeartbeats 400000 in
theorem gridContains_any (v : Value) (n : Nat) (l : List Int) (w : World) (B : Nat) (hB : B ≤ w.heap.size) (h : IsFlat 3 w B v n l) :
    Calls Try.prog 58 #[v, .func (.func 59) #[] #[]] w fun e w' => e = .returned (.bool (anyN (badPt l) n)) ∧ Below w.heap.size w w' := by
  obtain ⟨k, hk⟩ := FirstR.ex (badPt l) n
  have HC := Lib.hid (gridIndex_any v n l k w B hB h hk)
  have HK := Lib.hid hk.any
  obtain ⟨A, c, rfl, hc, hm, hn, hl, hr, hw⟩ := h
  clear hk hr hw hl
  go_enter Try.func58, Try.ntmps58
  go_wp2_with (go_at_call 79; refine (HC.out).mono ?_; rintro e w1 ⟨rfl, hb1⟩)
  go_ret
  exact ⟨ret_bool (by rw [← HK.out]), hb1⟩
set_option maxHeartbeats 400000 in
theorem gridCheck_any (v : Value) (n : Nat) (l : List Int) (w : World) (B : Nat) (hB : B ≤ w.heap.size) (h : IsFlat 3 w B v n l) :
    Calls Try.prog 32 #[v] w fun e w' => e = .returned (.int .i64 (ptCode n l)) ∧ Below w.heap.size w w' := by
  have HC := fun b (hb : anyN (badPt l) n = b) => Lib.hid (hb ▸ gridContains_any v n l w B hB h)
  obtain ⟨A, c, rfl, hc, hm, hn, hl, hr, hw⟩ := h
  clear hr hw hl
  by_cases c1 : 150 < n
  · have HK := Lib.hid (ptCode_1 (l := l) c1)
    clear HC
    go_enter Try.func32, Try.ntmps32
    go_wp2_with fail
    go_ret
    exact ⟨ret_int HK.out.symm, Below.refl _ _⟩
  cases hb : anyN (badPt l) n with
  | true =>
    have HC := HC _ hb
    have HK := Lib.hid (ptCode_2 c1 hb)
    clear hb
    go_enter Try.func32, Try.ntmps32
    go_wp2_with (go_at_call 58; refine (HC.out).mono ?_; rintro e w1 ⟨rfl, hb1⟩)
    go_ret
    exact ⟨ret_int HK.out.symm, hb1⟩
  | false =>
    have HC := HC _ hb
    have HK := Lib.hid (ptCode_0 c1 hb)
    clear hb
    go_enter Try.func32, Try.ntmps32
    go_wp2_with (go_at_call 58; refine (HC.out).mono ?_; rintro e w1 ⟨rfl, hb1⟩)
    go_ret
    exact ⟨ret_int HK.out.symm, hb1⟩
end Go.Proofs.Ythiccmncdmohbaa
