/-
  Texts of one claim behind each other. Conditions: none of its own.
-/
import Derived.Test.YtlojecajonhmhaaGreatDoorMQueryEvals11
import Derived.Test.YtlojecajonhmhaaGreatDoorMQueryEvals15
import Derived.Test.YtlojecajonhmhaaGreatDoorMQueryEvals02
import Derived.Test.YtlojecajonhmhaaGreatDoorMQueryEvals05
set_option linter.unusedVariables false
set_option linter.unusedSimpArgs false
/-
  Plain laws for package grid's index: the comparison is a strict order, and what a store into a block of slices leaves as it was. Conditions: none; nothing here names the program.
-/
namespace Go.Dam
open Go Go.RowKit Go.Sort
set_option linter.unusedVariables false
theorem cmp_neg (x y : Int) : Lib.compareInt x y < 0 ↔ x < y := by
  unfold Lib.compareInt
  by_cases h1 : x < y
  · simp [h1]
  · by_cases h2 : y < x <;> simp [h1, h2]
theorem cmp_zero (x y : Int) : Lib.compareInt x y = 0 ↔ x = y := by
  unfold Lib.compareInt
  by_cases h1 : x < y
  · simp [h1]; omega
  · by_cases h2 : y < x
    · simp [h1, h2]; omega
    · simp [h1, h2]; omega
theorem or3_neg (a b c d e f : Int) : or3 (Lib.compareInt a b) (Lib.compareInt c d) (Lib.compareInt e f) < 0 ↔ a < b ∨ (a = b ∧ (c < d ∨ (c = d ∧ e < f))) := by
  unfold or3
  by_cases h1 : a = b
  · rw [if_neg (by simp [cmp_zero, h1])]
    by_cases h2 : c = d
    · rw [if_neg (by simp [cmp_zero, h2]), cmp_neg]; omega
    · rw [if_pos (by simp [cmp_zero, h2]), cmp_neg]; omega
  · rw [if_pos (by simp [cmp_zero, h1]), cmp_neg]; omega
/-- Points by X, Y and place. -/
def cmpXY (l : List Int) (x y : Int) : Int := or3 (Lib.compareInt (l.getD (x.toNat * 3) 0) (l.getD (y.toNat * 3) 0)) (Lib.compareInt (l.getD (x.toNat * 3 + 1) 0) (l.getD (y.toNat * 3 + 1) 0)) (Lib.compareInt x y)
theorem swo_xy {α : Type} (k : α → Int) (l : List Int) : SWO (fun x y : α => decide (cmpXY l (k x) (k y) < 0)) where
  irrefl x := by rw [decide_eq_false]; unfold cmpXY; rw [or3_neg]; omega
  trans x y z h1 h2 := by
    have h1 := of_decide_eq_true h1
    have h2 := of_decide_eq_true h2
    unfold cmpXY at *
    rw [or3_neg] at h1 h2
    exact decide_eq_true (by rw [or3_neg]; omega)
  ntrans x y z h1 h2 := by
    have h1 := of_decide_eq_false h1
    have h2 := of_decide_eq_false h2
    unfold cmpXY at *
    rw [or3_neg] at h1 h2
    exact decide_eq_false (by rw [or3_neg]; omega)
/-- The cells of a block are all slices. -/
def AllSl (cs : Array Value) : Prop := ∀ (i : Nat) (u : Value), cs[i]? = some u → ∃ A n c, u = Value.slice A n c
section
variable {w : World} {B : Nat} {v : Value} {p : Addr} {t : TypeId} {cs : Array Value}
theorem sl_ne (hb : Blk w p.block t cs) (hs : AllSl cs) {b o : Nat} {k : IntKind} {z : Int} (hc : w.cell? ⟨b, o, none⟩ = some (.int k z)) : b ≠ p.block := by
  rintro rfl
  obtain ⟨A, n, c, e⟩ := hs o _ ((hb.cell o).symm.trans hc)
  cases e
theorem set_far {b o : Nat} (hb : b ≠ p.block) (x : Value) : (w.setCell p x).cell? ⟨b, o, none⟩ = w.cell? ⟨b, o, none⟩ :=
  World.cell?_setCell_other _ _ _ _ (fun e => hb (by rw [e]))
theorem ints_sl {k : IntKind} {l : List Int} (h : IsInts k w B v l) (hb : Blk w p.block t cs) (hs : AllSl cs) (x : Value) : IsInts k (w.setCell p x) B v l := by
  obtain ⟨A, c, rfl, h1, h2, h5, h3, h4⟩ := h
  refine ⟨A, c, rfl, h1, h2, h5, ⟨h3.1, fun hn => ?_⟩, h4⟩
  obtain ⟨b, off, rfl, hbl, hc⟩ := ints_cells h3 hn
  refine ⟨_, rfl, hbl, fun j u hu => ?_⟩
  obtain ⟨ad, e, _, hc'⟩ := h3.2 hn
  injection e with e
  subst e
  have h6 := hc' j u hu
  obtain ⟨z, _, rfl⟩ : ∃ z, z ∈ l ∧ Value.int k z = u := by
    have := List.mem_of_getElem? hu
    obtain ⟨z, hz, e⟩ := List.mem_map.1 this
    exact ⟨z, hz, e⟩
  have e : (⟨b, off, none⟩ : Addr).add j = ⟨b, off + j, none⟩ := by unfold Addr.add; split <;> simp_all
  rw [e] at h6 ⊢
  exact (set_far (sl_ne hb hs h6) x).trans h6
theorem words_sl {l : List Nat} (h : IsWords w B v l) (hb : Blk w p.block t cs) (hs : AllSl cs) (x : Value) : IsWords (w.setCell p x) B v l := by
  obtain ⟨A, c, rfl, h1, h2, h5, h3, h4⟩ := h
  refine ⟨A, c, rfl, h1, h2, h5, ⟨h3.1, fun hn => ?_⟩, h4⟩
  obtain ⟨b, off, rfl, hbl, hc⟩ := h3.addr hn
  refine ⟨_, rfl, hbl, fun j u hu => ?_⟩
  obtain ⟨z, _, rfl⟩ : ∃ z, z ∈ l ∧ wordV z = u := List.mem_map.1 (List.mem_of_getElem? hu)
  obtain ⟨u', e1, h6⟩ := hc j (by have := (List.getElem?_eq_some_iff.1 hu).1; simpa using this)
  rw [hu] at e1
  obtain rfl : wordV z = u' := by injection e1
  have e : (⟨b, off, none⟩ : Addr).add j = ⟨b, off + j, none⟩ := by unfold Addr.add; split <;> simp_all
  rw [e]
  exact (set_far (sl_ne hb hs h6) x).trans h6
theorem rows_sl {rs : List (Int × List Nat)} (h : IsRowsB w B v rs) (hb : Blk w p.block t cs) (hs : AllSl cs) (x : Value) : IsRowsB (w.setCell p x) B v rs := by
  obtain ⟨A, c, vs, rfl, h1, h2, h5, h3, h4⟩ := h
  refine ⟨A, c, vs, rfl, h1, h2, h5, ⟨h3.1, fun hn => ?_⟩, fun i hi => ?_⟩
  · obtain ⟨_, b, off, rfl, hbl, _⟩ := rows_at ⟨A, c, vs, rfl, h1, h2, h5, h3, h4⟩ hn
    obtain ⟨ad, ea, _, hc⟩ := h3.2 hn
    injection ea with ea
    subst ea
    refine ⟨_, rfl, hbl, fun j u hu => ?_⟩
    have e : ∀ j, (⟨b, off, none⟩ : Addr).add j = ⟨b, off + j, none⟩ := fun j => by unfold Addr.add; split <;> simp_all
    have hj : j < rs.length * 2 := by have := h3.1; have := (List.getElem?_eq_some_iff.1 hu).1; omega
    obtain ⟨s, e1, _, _⟩ := h4 (j / 2) (by omega)
    injection e1 with e1
    have e2 : vs.getD (j / 2 * 2) undef = .int .i64 (rs.getD (j / 2) (0, [])).1 := by have := congrArg (fun q => q[0]!) e1; simpa using this
    have h7 := hc (j / 2 * 2) _ (by rw [List.getElem?_eq_getElem (by have := h3.1; omega)])
    have h8 := hc j u hu
    rw [List.getD_eq_getElem?_getD, List.getElem?_eq_getElem (by have := h3.1; omega)] at e2
    simp only [Option.getD_some] at e2
    rw [e2] at h7
    rw [e] at h7 h8 ⊢
    exact (set_far (sl_ne hb hs h7) x).trans h8
  · obtain ⟨s, e1, e2, e3⟩ := h4 i hi
    exact ⟨s, e1, e2, words_sl e3 hb hs x⟩
end
theorem natL_wf {r : List Nat} {n : Nat} {p : Nat → Bool} (h : ∀ u, u < n → r.getD u 0 < n) (hl : r.length = n) (hn : n ≤ 1000000) {z : Int} (hz : z ∈ natL (r.filter p)) : (Lit.int .i64 z).wf = true := by
  unfold natL at hz
  obtain ⟨i, hi, rfl⟩ := List.mem_map.1 hz
  obtain ⟨u, hu, rfl⟩ := List.mem_iff_getElem.1 (List.mem_filter.1 hi).1
  have := h u (by omega)
  rw [ge_at r hu] at this
  exact WalkArith.wf_i64 (by omega)
theorem natL_app (a : List Nat) (x : Nat) : (natL (a ++ [x])).map (Value.int .i64) = (natL a).map (Value.int .i64) ++ [.int .i64 (x : Int)] := by unfold natL; simp
end Go.Dam

/-
  Contracts of the tests whether a point lies in a rectangle: package grid's and the reference's. Conditions: none.
-/
namespace Go.Dam
open Go Go.RowKit
/-- Does a point lie in a rectangle? -/
def inR (x y x0 y0 x1 y1 : Int) : Bool := decide (x0 ≤ x) && decide (x ≤ x1) && decide (y0 ≤ y) && decide (y ≤ y1)
end Go.Dam
namespace Go.Proofs.YtlojecajonhmhaaGreatDoor
open Go Go.RowKit Go.Dam
set_option linter.unusedVariables false
section
variable (x y z x0 y0 x1 y1 : Int) (w : World)
set_option maxHeartbeats 1000000 in
theorem gridIn_any : Calls Tryz.prog 43 #[.agg #[.int .i64 x, .int .i64 y, .int .i64 z], .agg #[.int .i64 x0, .int .i64 y0, .int .i64 x1, .int .i64 y1]] w fun e w' => e = .returned (.bool (inR x y x0 y0 x1 y1)) ∧ Below w.heap.size w w' := by
  have HB0 := Lib.hid (((Below.refl w.heap.size w).alloc (Nat.le_refl _) (.cells #[.int .i64 x, .int .i64 y, .int .i64 z] 39)).alloc (by simp) (.cells #[.int .i64 x0, .int .i64 y0, .int .i64 x1, .int .i64 y1] 23))
  obtain ⟨q, hq⟩ : ∃ q, inR x y x0 y0 x1 y1 = q := ⟨_, rfl⟩
  by_cases h1 : x0 ≤ x
  rotate_left
  · obtain rfl : false = q := by rw [← hq]; unfold inR; simp [h1]
    have t1 : decide (x0 ≤ x) = false := decide_eq_false h1
    rw [hq]; clear hq
    go_enter Tryz.func43, Tryz.ntmps43
    go_wp2_with fail
    go_ret
    exact ⟨rfl, HB0.out⟩
  by_cases h2 : x ≤ x1
  rotate_left
  · obtain rfl : false = q := by rw [← hq]; unfold inR; simp [h2]
    have t1 : decide (x0 ≤ x) = true := decide_eq_true h1
    have t2 : decide (x ≤ x1) = false := decide_eq_false h2
    rw [hq]; clear hq
    go_enter Tryz.func43, Tryz.ntmps43
    go_wp2_with fail
    go_ret
    exact ⟨rfl, HB0.out⟩
  by_cases h3 : y0 ≤ y
  rotate_left
  · obtain rfl : false = q := by rw [← hq]; unfold inR; simp [h3]
    have t1 : decide (x0 ≤ x) = true := decide_eq_true h1
    have t2 : decide (x ≤ x1) = true := decide_eq_true h2
    have t3 : decide (y0 ≤ y) = false := decide_eq_false h3
    rw [hq]; clear hq
    go_enter Tryz.func43, Tryz.ntmps43
    go_wp2_with fail
    go_ret
    exact ⟨rfl, HB0.out⟩
  · have hq2 : decide (y ≤ y1) = q := by rw [← hq]; unfold inR; simp [h1, h2, h3]
    rw [hq]; clear hq
    cases q with
    | true =>
      have h4 : y ≤ y1 := of_decide_eq_true hq2
      have t1 : decide (x0 ≤ x) = true := decide_eq_true h1
      have t2 : decide (x ≤ x1) = true := decide_eq_true h2
      have t3 : decide (y0 ≤ y) = true := decide_eq_true h3
      go_enter Tryz.func43, Tryz.ntmps43
      go_wp2_with fail
      go_ret
      exact ⟨ret_bool (by simp [h4]), HB0.out⟩
    | false =>
      have h4 : ¬ y ≤ y1 := of_decide_eq_false hq2
      have t1 : decide (x0 ≤ x) = true := decide_eq_true h1
      have t2 : decide (x ≤ x1) = true := decide_eq_true h2
      have t3 : decide (y0 ≤ y) = true := decide_eq_true h3
      go_enter Tryz.func43, Tryz.ntmps43
      go_wp2_with fail
      go_ret
      exact ⟨ret_bool (by simp [h4]), HB0.out⟩
set_option maxHeartbeats 1000000 in
theorem refPointIn_any : Calls Tryz.prog 22 #[.agg #[.int .i64 x, .int .i64 y, .int .i64 z], .agg #[.int .i64 x0, .int .i64 y0, .int .i64 x1, .int .i64 y1]] w fun e w' => e = .returned (.bool (inR x y x0 y0 x1 y1)) ∧ Below w.heap.size w w' := by
  have HB0 := Lib.hid (((Below.refl w.heap.size w).alloc (Nat.le_refl _) (.cells #[.int .i64 x, .int .i64 y, .int .i64 z] 39)).alloc (by simp) (.cells #[.int .i64 x0, .int .i64 y0, .int .i64 x1, .int .i64 y1] 23))
  obtain ⟨q, hq⟩ : ∃ q, inR x y x0 y0 x1 y1 = q := ⟨_, rfl⟩
  by_cases h1 : x0 ≤ x
  rotate_left
  · obtain rfl : false = q := by rw [← hq]; unfold inR; simp [h1]
    have t1 : decide (x0 ≤ x) = false := decide_eq_false h1
    rw [hq]; clear hq
    go_enter Tryz.func22, Tryz.ntmps22
    go_wp2_with fail
    go_ret
    exact ⟨rfl, HB0.out⟩
  by_cases h2 : x ≤ x1
  rotate_left
  · obtain rfl : false = q := by rw [← hq]; unfold inR; simp [h2]
    have t1 : decide (x0 ≤ x) = true := decide_eq_true h1
    have t2 : decide (x ≤ x1) = false := decide_eq_false h2
    rw [hq]; clear hq
    go_enter Tryz.func22, Tryz.ntmps22
    go_wp2_with fail
    go_ret
    exact ⟨rfl, HB0.out⟩
  by_cases h3 : y0 ≤ y
  rotate_left
  · obtain rfl : false = q := by rw [← hq]; unfold inR; simp [h3]
    have t1 : decide (x0 ≤ x) = true := decide_eq_true h1
    have t2 : decide (x ≤ x1) = true := decide_eq_true h2
    have t3 : decide (y0 ≤ y) = false := decide_eq_false h3
    rw [hq]; clear hq
    go_enter Tryz.func22, Tryz.ntmps22
    go_wp2_with fail
    go_ret
    exact ⟨rfl, HB0.out⟩
  · have hq2 : decide (y ≤ y1) = q := by rw [← hq]; unfold inR; simp [h1, h2, h3]
    rw [hq]; clear hq
    cases q with
    | true =>
      have h4 : y ≤ y1 := of_decide_eq_true hq2
      have t1 : decide (x0 ≤ x) = true := decide_eq_true h1
      have t2 : decide (x ≤ x1) = true := decide_eq_true h2
      have t3 : decide (y0 ≤ y) = true := decide_eq_true h3
      go_enter Tryz.func22, Tryz.ntmps22
      go_wp2_with fail
      go_ret
      exact ⟨ret_bool (by simp [h4]), HB0.out⟩
    | false =>
      have h4 : ¬ y ≤ y1 := of_decide_eq_false hq2
      have t1 : decide (x0 ≤ x) = true := decide_eq_true h1
      have t2 : decide (x ≤ x1) = true := decide_eq_true h2
      have t3 : decide (y0 ≤ y) = true := decide_eq_true h3
      go_enter Tryz.func22, Tryz.ntmps22
      go_wp2_with fail
      go_ret
      exact ⟨ret_bool (by simp [h4]), HB0.out⟩
end
end Go.Proofs.YtlojecajonhmhaaGreatDoor
