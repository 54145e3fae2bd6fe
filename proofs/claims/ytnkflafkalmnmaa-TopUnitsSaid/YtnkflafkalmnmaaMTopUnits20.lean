/-
  Contract of klee.Check (with near, its test and the library's ContainsFunc and IndexFunc): what is refused of rectangles. Conditions: the rectangles can be read as data.
-/
import Derived.Test.YtnkflafkalmnmaaMTopUnits02
import Derived.Test.YtnkflafkalmnmaaMTopUnits00
namespace Go.Dam
/-- Is element i refused? -/
def badRc (l : List Int) (i : Nat) : Bool := (!(coordOk (l.getD (i * 4) 0) && (coordOk (l.getD (i * 4 + 2) 0) && (coordOk (l.getD (i * 4 + 1) 0) && (coordOk (l.getD (i * 4 + 3) 0) && (decide ((l.getD (i * 4) 0) ≤ (l.getD (i * 4 + 2) 0)) && (decide ((l.getD (i * 4 + 1) 0) ≤ (l.getD (i * 4 + 3) 0)))))))))
theorem badRc_eq (l : List Int) (i : Nat) : (!(coordOk (l.getD (i * 4) 0) && (coordOk (l.getD (i * 4 + 2) 0) && (coordOk (l.getD (i * 4 + 1) 0) && (coordOk (l.getD (i * 4 + 3) 0) && (decide ((l.getD (i * 4) 0) ≤ (l.getD (i * 4 + 2) 0)) && (decide ((l.getD (i * 4 + 1) 0) ≤ (l.getD (i * 4 + 3) 0))))))))) = badRc l i := by unfold badRc; rfl
/-- The code of the refusal. -/
def rcCode (n : Nat) (l : List Int) : Int := if 40 < n then 1 else if anyN (badRc l) n = true then 2 else 0
theorem rcCode_1 {n : Nat} {l : List Int} (h : 40 < n) : rcCode n l = 1 := by unfold rcCode; rw [if_pos h]
theorem rcCode_2 {n : Nat} {l : List Int} (h : ¬ 40 < n) (h2 : anyN (badRc l) n = true) : rcCode n l = 2 := by unfold rcCode; rw [if_neg h, if_pos h2]
theorem rcCode_0 {n : Nat} {l : List Int} (h : ¬ 40 < n) (h2 : anyN (badRc l) n = false) : rcCode n l = 0 := by unfold rcCode; rw [if_neg h, h2]; rfl
theorem rcCode_ok {n : Nat} {l : List Int} (h : rcCode n l = 0) : n ≤ 40 ∧ ∀ i, i < n → badRc l i = false := by
  unfold rcCode at h
  split at h
  · cases h
  · split at h
    · cases h
    · rename_i h1 h2
      exact ⟨by omega, anyN_false (by simpa using h2)⟩
theorem rcCode_cases (n : Nat) (l : List Int) : rcCode n l = 0 ∨ rcCode n l = 1 ∨ rcCode n l = 2 := by
  unfold rcCode; split
  · exact .inr (.inl rfl)
  · split
    · exact .inr (.inr rfl)
    · exact .inl rfl
theorem badRc_fine {l : List Int} {i : Nat} (h : badRc l i = false) : (-1048576 ≤ l.getD (i * 4) 0 ∧ l.getD (i * 4) 0 ≤ 1048576) ∧ (-1048576 ≤ l.getD (i * 4 + 2) 0 ∧ l.getD (i * 4 + 2) 0 ≤ 1048576) ∧ (-1048576 ≤ l.getD (i * 4 + 1) 0 ∧ l.getD (i * 4 + 1) 0 ≤ 1048576) ∧ (-1048576 ≤ l.getD (i * 4 + 3) 0 ∧ l.getD (i * 4 + 3) 0 ≤ 1048576) ∧ l.getD (i * 4) 0 ≤ l.getD (i * 4 + 2) 0 ∧ l.getD (i * 4 + 1) 0 ≤ l.getD (i * 4 + 3) 0 := by
  unfold badRc at h
  simp only [Bool.not_eq_false', Bool.and_eq_true, decide_eq_true_eq] at h
  obtain ⟨h0, h1, h2, h3, h4, h5⟩ := h
  exact ⟨coordOk_yes h0, coordOk_yes h1, coordOk_yes h2, coordOk_yes h3, h4, h5⟩
attribute [irreducible] badRc rcCode
end Go.Dam
namespace Go.Proofs.Ytnkflafkalmnmaa
open Go Go.RowKit Go.Dam
set_option linter.unusedVariables false
set_option maxHeartbeats 400000 in
theorem kleeNear_any (x : Int) (b : Bool) (w : World) (h : coordOk x = b) : Calls Try.prog 35 #[.int .i64 x] w fun e w' => e = .returned (.bool b) ∧ w = w' := by
  cases b with
  | true =>
    obtain ⟨h1, h2⟩ := coordOk_yes h
    clear h
    go_enter Try.func35, Try.ntmps35
    go_wp2
    go_ret
    exact ⟨ret_bool (by simp <;> omega), rfl⟩
  | false =>
    have h1 := coordOk_no h
    clear h
    by_cases h2 : x < -1048576
    · clear h1
      go_enter Try.func35, Try.ntmps35
      go_wp2
      go_ret
      exact ⟨ret_bool (by simp <;> omega), rfl⟩
    · have h3 : 1048576 < x := by omega
      clear h1
      go_enter Try.func35, Try.ntmps35
      go_wp2
      go_ret
      exact ⟨ret_bool (by simp <;> omega), rfl⟩
set_option maxHeartbeats 1000000 in
theorem kleeTest_any (x0 x1 x2 x3 : Int) (b : Bool) (w : World) (hh : (!(coordOk x0 && (coordOk x2 && (coordOk x1 && (coordOk x3 && (decide (x0 ≤ x2) && (decide (x1 ≤ x3)))))))) = b) :
    Calls Try.prog 23 #[.agg #[.int .i64 x0, .int .i64 x1, .int .i64 x2, .int .i64 x3]] w fun e w' => e = .returned (.bool b) ∧ Below w.heap.size w w' := by
  have H0 := fun b h => Lib.hid fun W => kleeNear_any x0 b W h
  have H1 := fun b h => Lib.hid fun W => kleeNear_any x1 b W h
  have H2 := fun b h => Lib.hid fun W => kleeNear_any x2 b W h
  have H3 := fun b h => Lib.hid fun W => kleeNear_any x3 b W h
  cases g0 : coordOk x0 with
  | false =>
    obtain rfl : true = b := by rw [g0] at hh; exact hh
    have H0 := H0 _ g0
    clear H1 H2 H3 hh g0
    go_enter Try.func23, Try.ntmps23
    go_wp2_with (go_at_call 35; with_reducible refine (H0.out _).mono ?_; rintro e w1 ⟨rfl, rfl⟩)
    go_ret
    exact ⟨rfl, (Below.refl _ _).alloc (Nat.le_refl _) _⟩
  | true =>
  cases g1 : coordOk x2 with
  | false =>
    obtain rfl : true = b := by rw [g0, g1] at hh; exact hh
    have H0 := H0 _ g0
    have H2 := H2 _ g1
    clear H1 H3 hh g0 g1
    go_enter Try.func23, Try.ntmps23
    go_wp2_with (go_at_call 35; (first | with_reducible refine (H0.out _).mono ?_ | with_reducible refine (H2.out _).mono ?_); rintro e w1 ⟨rfl, rfl⟩)
    go_ret
    exact ⟨rfl, (Below.refl _ _).alloc (Nat.le_refl _) _⟩
  | true =>
  cases g2 : coordOk x1 with
  | false =>
    obtain rfl : true = b := by rw [g0, g1, g2] at hh; exact hh
    have H0 := H0 _ g0
    have H2 := H2 _ g1
    have H1 := H1 _ g2
    clear H3 hh g0 g1 g2
    go_enter Try.func23, Try.ntmps23
    go_wp2_with (go_at_call 35; (first | with_reducible refine (H0.out _).mono ?_ | with_reducible refine (H2.out _).mono ?_ | with_reducible refine (H1.out _).mono ?_); rintro e w1 ⟨rfl, rfl⟩)
    go_ret
    exact ⟨rfl, (Below.refl _ _).alloc (Nat.le_refl _) _⟩
  | true =>
  cases g3 : coordOk x3 with
  | false =>
    obtain rfl : true = b := by rw [g0, g1, g2, g3] at hh; exact hh
    have H0 := H0 _ g0
    have H2 := H2 _ g1
    have H1 := H1 _ g2
    have H3 := H3 _ g3
    clear hh g0 g1 g2 g3
    go_enter Try.func23, Try.ntmps23
    go_wp2_with (go_at_call 35; (first | with_reducible refine (H0.out _).mono ?_ | with_reducible refine (H2.out _).mono ?_ | with_reducible refine (H1.out _).mono ?_ | with_reducible refine (H3.out _).mono ?_); rintro e w1 ⟨rfl, rfl⟩)
    go_ret
    exact ⟨rfl, (Below.refl _ _).alloc (Nat.le_refl _) _⟩
  | true =>
  cases g4 : decide (x0 ≤ x2) with
  | false =>
    obtain rfl : true = b := by rw [g0, g1, g2, g3, g4] at hh; exact hh
    have H0 := H0 _ g0
    have H2 := H2 _ g1
    have H1 := H1 _ g2
    have H3 := H3 _ g3
    have t4 : decide (x2 < x0) = true := by have := of_decide_eq_false g4; simp; omega
    clear hh g0 g1 g2 g3 g4
    go_enter Try.func23, Try.ntmps23
    go_wp2_with (go_at_call 35; (first | with_reducible refine (H0.out _).mono ?_ | with_reducible refine (H2.out _).mono ?_ | with_reducible refine (H1.out _).mono ?_ | with_reducible refine (H3.out _).mono ?_); rintro e w1 ⟨rfl, rfl⟩)
    go_ret
    exact ⟨ret_bool (by simp [t4]), (Below.refl _ _).alloc (Nat.le_refl _) _⟩
  | true =>
  cases g5 : decide (x1 ≤ x3) with
  | false =>
    obtain rfl : true = b := by rw [g0, g1, g2, g3, g4, g5] at hh; exact hh
    have H0 := H0 _ g0
    have H2 := H2 _ g1
    have H1 := H1 _ g2
    have H3 := H3 _ g3
    have t4 : decide (x2 < x0) = false := by have := of_decide_eq_true g4; simp; omega
    have t5 : decide (x3 < x1) = true := by have := of_decide_eq_false g5; simp; omega
    clear hh g0 g1 g2 g3 g4 g5
    go_enter Try.func23, Try.ntmps23
    go_wp2_with (go_at_call 35; (first | with_reducible refine (H0.out _).mono ?_ | with_reducible refine (H2.out _).mono ?_ | with_reducible refine (H1.out _).mono ?_ | with_reducible refine (H3.out _).mono ?_); rintro e w1 ⟨rfl, rfl⟩)
    go_ret
    exact ⟨ret_bool (by simp [t4, t5]), (Below.refl _ _).alloc (Nat.le_refl _) _⟩
  | true =>
    obtain rfl : false = b := by rw [g0, g1, g2, g3, g4, g5] at hh; exact hh
    have H0 := H0 _ g0
    have H2 := H2 _ g1
    have H1 := H1 _ g2
    have H3 := H3 _ g3
    have t4 : decide (x2 < x0) = false := by have := of_decide_eq_true g4; simp; omega
    have t5 : decide (x3 < x1) = false := by have := of_decide_eq_true g5; simp; omega
    clear hh g0 g1 g2 g3 g4 g5
    go_enter Try.func23, Try.ntmps23
    go_wp2_with (go_at_call 35; (first | with_reducible refine (H0.out _).mono ?_ | with_reducible refine (H2.out _).mono ?_ | with_reducible refine (H1.out _).mono ?_ | with_reducible refine (H3.out _).mono ?_); rintro e w1 ⟨rfl, rfl⟩)
    go_ret
    exact ⟨ret_bool (by simp [t4, t5]), (Below.refl _ _).alloc (Nat.le_refl _) _⟩
set_option maxHeartbeats 400000 in
theorem kleeIndex_any (v : Value) (n : Nat) (l : List Int) (k : Int) (w : World) (B : Nat) (hB : B ≤ w.heap.size) (h : IsFlat 4 w B v n l) (hk : FirstR (badRc l) n k) :
    Calls Try.prog 34 #[v, .func (.func 23) #[] #[]] w fun e w' => e = .returned (.int .i64 k) ∧ Below w.heap.size w w' := by
  obtain ⟨A, c, rfl, hc, hm, hn, hl, hr, hw⟩ := h
  have HK := Lib.hid hk
  clear hk
  go_enter Try.func34, Try.ntmps34
  go_wp2_with fail
  go_loopw [8] (fun iv wr => ∃ i : Nat, i ≤ n ∧ iv = .int .i64 i ∧ (∀ j, j < i → badRc l j = false) ∧ Below w.heap.size w wr) (fun iv _ => n - (intOf iv).toNat)
  case atStart => exact ⟨0, by omega, rfl, fun j hj => absurd hj (by omega), Below.refl _ _⟩
  case round =>
    obtain ⟨i, hi, rfl, hno, hbel⟩ := hrel
    by_cases hlt : i < n
    · obtain ⟨b, off, rfl, hb, hcells⟩ := flat_cells hr hl (by omega) (by omega)
      have c0 := (hbel.cell (p := ⟨b, off + i * 4, none⟩) (by simp; omega)).trans (hcells (i * 4) (by omega))
      have c1 := (hbel.cell (p := ⟨b, off + i * 4 + 1, none⟩) (by simp; omega)).trans (hcells (i * 4 + 1) (by omega))
      have c2 := (hbel.cell (p := ⟨b, off + i * 4 + 2, none⟩) (by simp; omega)).trans (hcells (i * 4 + 2) (by omega))
      have c3 := (hbel.cell (p := ⟨b, off + i * 4 + 3, none⟩) (by simp; omega)).trans (hcells (i * 4 + 3) (by omega))
      have HC := fun W => kleeTest_any _ _ _ _ _ W (badRc_eq l i)
      generalize l.getD (i * 4) 0 = x0 at *
      generalize l.getD (i * 4 + 1) 0 = x1 at *
      generalize l.getD (i * 4 + 2) 0 = x2 at *
      generalize l.getD (i * 4 + 3) 0 = x3 at *
      have HB := Lib.hid hbel
      cases hp : badRc l i with
      | true =>
        rw [hp] at HC
        have HC := Lib.hid HC
        have HF : Hid (k = i) := Lib.hid (HK.out.is hlt hp hno)
        clear hcells hno hp hbel
        go_wp2_with (go_at_call 23; refine (HC.out _).mono ?_; rintro e w1 ⟨rfl, hb1⟩)
        go_ret
        exact ⟨ret_int HF.out.symm, HB.out.trans (hb1.mono HB.out.size)⟩
      | false =>
        rw [hp] at HC
        have HC := Lib.hid HC
        have HN := Lib.hid hno
        have HP := Lib.hid hp
        clear hcells hno hp hbel
        go_wp2_with (go_at_call 23; refine (HC.out _).mono ?_; rintro e w1 ⟨rfl, hb1⟩)
        go_roundw
        case rel => exact ⟨i + 1, by omega, by go_num, no_step HN.out HP.out, HB.out.trans (hb1.mono HB.out.size)⟩
        case measure => simp [intOf]; omega
    · obtain rfl : i = n := by omega
      have HF : Hid (k = -1) := Lib.hid (HK.out.none_ hno)
      have HB := Lib.hid hbel
      clear hno hbel
      go_wp2
      go_ret
      exact ⟨ret_int HF.out.symm, HB.out⟩
set_option maxHeartbeats 400000 in
theorem kleeContains_any (v : Value) (n : Nat) (l : List Int) (w : World) (B : Nat) (hB : B ≤ w.heap.size) (h : IsFlat 4 w B v n l) :
    Calls Try.prog 22 #[v, .func (.func 23) #[] #[]] w fun e w' => e = .returned (.bool (anyN (badRc l) n)) ∧ Below w.heap.size w w' := by
  obtain ⟨k, hk⟩ := FirstR.ex (badRc l) n
  have HC := Lib.hid (kleeIndex_any v n l k w B hB h hk)
  have HK := Lib.hid hk.any
  obtain ⟨A, c, rfl, hc, hm, hn, hl, hr, hw⟩ := h
  clear hk hr hw hl
  go_enter Try.func22, Try.ntmps22
  go_wp2_with (go_at_call 34; refine (HC.out).mono ?_; rintro e w1 ⟨rfl, hb1⟩)
  go_ret
  exact ⟨ret_bool (by rw [← HK.out]), hb1⟩
set_option maxHeartbeats 400000 in
theorem kleeCheck_any (v : Value) (n : Nat) (l : List Int) (w : World) (B : Nat) (hB : B ≤ w.heap.size) (h : IsFlat 4 w B v n l) :
    Calls Try.prog 12 #[v] w fun e w' => e = .returned (.int .i64 (rcCode n l)) ∧ Below w.heap.size w w' := by
  have HC := fun b (hb : anyN (badRc l) n = b) => Lib.hid (hb ▸ kleeContains_any v n l w B hB h)
  obtain ⟨A, c, rfl, hc, hm, hn, hl, hr, hw⟩ := h
  clear hr hw hl
  by_cases c1 : 40 < n
  · have HK := Lib.hid (rcCode_1 (l := l) c1)
    clear HC
    go_enter Try.func12, Try.ntmps12
    go_wp2_with fail
    go_ret
    exact ⟨ret_int HK.out.symm, Below.refl _ _⟩
  cases hb : anyN (badRc l) n with
  | true =>
    have HC := HC _ hb
    have HK := Lib.hid (rcCode_2 c1 hb)
    clear hb
    go_enter Try.func12, Try.ntmps12
    go_wp2_with (go_at_call 22; refine (HC.out).mono ?_; rintro e w1 ⟨rfl, hb1⟩)
    go_ret
    exact ⟨ret_int HK.out.symm, hb1⟩
  | false =>
    have HC := HC _ hb
    have HK := Lib.hid (rcCode_0 c1 hb)
    clear hb
    go_enter Try.func12, Try.ntmps12
    go_wp2_with (go_at_call 22; refine (HC.out).mono ?_; rintro e w1 ⟨rfl, hb1⟩)
    go_ret
    exact ⟨ret_int HK.out.symm, hb1⟩
end Go.Proofs.Ytnkflafkalmnmaa
