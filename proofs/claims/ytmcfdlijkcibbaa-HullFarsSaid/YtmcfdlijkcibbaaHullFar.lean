/-
  Contracts of hull.Far and the reference's HullFar: the first of the points that are farthest in a direction. Conditions: the points can be read as data.
-/
import Derived.Test.YtmcfdlijkcibbaaHullFault
namespace Go.Dam
/-- How far point i is in a direction. -/
def farV (dx dy : Int) (l : List Int) (i : Nat) : Int := dx * l.getD (i * 3) 0 + dy * l.getD (i * 3 + 1) 0
theorem farV_eq (dx dy : Int) (l : List Int) (i : Nat) : farV dx dy l i = dx * l.getD (i * 3) 0 + dy * l.getD (i * 3 + 1) 0 := rfl
/-- Place i is the first of those, below n, of which none is above. -/
def IsTop (f : Nat → Int) (n i : Nat) : Prop := (∀ k, k < n → f k ≤ f i) ∧ ∀ j, j < i → f j < f i
theorem IsTop.uniq {f : Nat → Int} {n i j : Nat} (h : IsTop f n i) (g : IsTop f n j) (hi : i < n) (hj : j < n) : i = j := by
  rcases Nat.lt_trichotomy i j with h1 | h1 | h1
  · have a := g.2 i h1; have b := h.1 j hj; omega
  · exact h1
  · have a := h.2 j h1; have b := g.1 i hi; omega
theorem IsTop.one (f : Nat → Int) : IsTop f 1 0 := ⟨fun k hk => by rw [show k = 0 from by omega]; exact Int.le_refl _, fun j hj => absurd hj (by omega)⟩
theorem IsTop.keep {f : Nat → Int} {n i : Nat} (h : IsTop f n i) (hn : f n ≤ f i) : IsTop f (n + 1) i :=
  ⟨fun k hk => by rcases Nat.lt_or_ge k n with h1 | h1; exact h.1 k h1; rw [show k = n from by omega]; exact hn, h.2⟩
theorem IsTop.new {f : Nat → Int} {n i : Nat} (h : IsTop f n i) (hn : f i < f n) : IsTop f (n + 1) n :=
  ⟨fun k hk => by rcases Nat.lt_or_ge k n with h1 | h1; exact Int.le_trans (h.1 k h1) (Int.le_of_lt hn); rw [show k = n from by omega]; exact Int.le_refl _, fun j hj => Int.lt_of_le_of_lt (h.1 j hj) hn⟩
theorem IsTop.ex (f : Nat → Int) : ∀ n, 0 < n → ∃ i, i < n ∧ IsTop f n i
  | 0, h => by omega
  | 1, _ => ⟨0, by omega, IsTop.one f⟩
  | n + 2, _ => by
    obtain ⟨i, hi, h⟩ := IsTop.ex f (n + 1) (by omega)
    by_cases hc : f i < f (n + 1)
    · exact ⟨n + 1, by omega, h.new hc⟩
    · exact ⟨i, by omega, h.keep (by omega)⟩
/-- What Far answers. -/
def FarR (n : Nat) (l : List Int) (dx dy r c : Int) : Prop :=
  (hullCode n l ≠ 0 ∧ r = 0 ∧ c = hullCode n l) ∨ (hullCode n l = 0 ∧ (coordOk dx && coordOk dy) = false ∧ r = 0 ∧ c = 2) ∨
  (hullCode n l = 0 ∧ coordOk dx = true ∧ coordOk dy = true ∧ (∃ i : Nat, i < n ∧ r = i ∧ IsTop (farV dx dy l) n i) ∧ c = 0)
theorem FarR.ex (n : Nat) (l : List Int) (dx dy : Int) : ∃ r c, FarR n l dx dy r c := by
  by_cases h : hullCode n l = 0
  · cases hx : coordOk dx with
    | false => exact ⟨_, _, .inr (.inl ⟨h, by rw [hx]; rfl, rfl, rfl⟩)⟩
    | true =>
      cases hy : coordOk dy with
      | false => exact ⟨_, _, .inr (.inl ⟨h, by rw [hx, hy]; rfl, rfl, rfl⟩)⟩
      | true =>
        obtain ⟨i, hi, ht⟩ := IsTop.ex (farV dx dy l) n (hullCode_ok h).2
        exact ⟨_, _, .inr (.inr ⟨h, hx, hy, ⟨i, hi, rfl, ht⟩, rfl⟩)⟩
  · exact ⟨_, _, .inl ⟨h, rfl, rfl⟩⟩
theorem mul_bd {a b : Int} (h1 : -1048576 ≤ a ∧ a ≤ 1048576) (h2 : -1048576 ≤ b ∧ b ≤ 1048576) : -1099511627776 ≤ a * b ∧ a * b ≤ 1099511627776 := by
  have h : (a * b).natAbs ≤ 1048576 * 1048576 := by rw [Int.natAbs_mul]; exact Nat.mul_le_mul (by omega) (by omega)
  omega
attribute [irreducible] farV
end Go.Dam
namespace Go.Proofs.Ytmcfdlijkcibbaa
open Go Go.RowKit Go.Dam
set_option linter.unusedVariables false
set_option maxHeartbeats 1000000 in
theorem hullFar_any (v : Value) (n : Nat) (l : List Int) (dx dy r cc : Int) (w : World) (B : Nat) (hB : B ≤ w.heap.size) (h : IsFlat 3 w B v n l) (hR : FarR n l dx dy r cc) :
    Calls Try.prog 38 #[v, .int .i64 dx, .int .i64 dy] w fun e w' => e = .returned (.tuple #[.int .i64 r, .int .i64 cc]) ∧ Below w.heap.size w w' := by
  have HC := Lib.hid (hullfault_any v n l w B hB h)
  obtain ⟨A, c, rfl, hc, hm, hn, hl, hr, hw⟩ := h
  rcases hR with ⟨h0, rfl, rfl⟩ | ⟨h0, h1, rfl, rfl⟩ | ⟨h0, hx, hy, ⟨i0, hi0, rfl, htop⟩, rfl⟩
  · generalize hullCode n l = cc at *
    have t0 : (cc != 0) = true := by simpa using h0
    clear h0 hl hr hw
    go_enter Try.func38, Try.ntmps38
    go_wp2_with (go_at_call 58; refine (HC.out).mono ?_; rintro e w1 ⟨rfl, hb1⟩)
    go_ret2
    exact ⟨rfl, hb1⟩
  · rw [h0] at HC
    clear h0 hl hr hw
    cases hx : coordOk dx with
    | false =>
      clear h1
      have HX := Lib.hid fun W => hullNear_any dx false W hx
      clear hx
      go_enter Try.func38, Try.ntmps38
      go_wp2_with (first
        | (go_at_call 58; refine (HC.out).mono ?_; rintro e w1 ⟨rfl, hb1⟩)
        | (go_at_call 59; refine (HX.out _).mono ?_; rintro e w1 ⟨rfl, rfl⟩))
      go_ret2
      exact ⟨rfl, hb1⟩
    | true =>
      rw [hx, Bool.true_and] at h1
      have HX := Lib.hid fun W => hullNear_any dx true W hx
      have HY := Lib.hid fun W => hullNear_any dy false W h1
      clear hx h1
      go_enter Try.func38, Try.ntmps38
      go_wp2_with (first
        | (go_at_call 58; refine (HC.out).mono ?_; rintro e w1 ⟨rfl, hb1⟩)
        | (go_at_call 59; (with_reducible refine (HX.out _).mono ?_); rintro e w1 ⟨rfl, rfl⟩)
        | (go_at_call 59; (with_reducible refine (HY.out _).mono ?_); rintro e w1 ⟨rfl, rfl⟩))
      go_ret2
      exact ⟨rfl, hb1⟩
  · rw [h0] at HC
    obtain ⟨hn150, hbad⟩ := ptCode_ok (hullCode_ok h0).1
    have HX := Lib.hid fun W => hullNear_any dx true W hx
    have HY := Lib.hid fun W => hullNear_any dy true W hy
    have bx := coordOk_yes hx
    have by_ := coordOk_yes hy
    have HBad := Lib.hid fun i (hi : i < n) => badPt_fine (hbad i hi)
    have HTop := Lib.hid htop
    clear h0 hx hy hbad htop
    go_enter Try.func38, Try.ntmps38
    go_wp2_with (first
      | (go_at_call 58; refine (HC.out).mono ?_; rintro e w1 ⟨rfl, hb1⟩)
      | (go_at_call 59; (with_reducible refine (HX.out _).mono ?_); rintro e w1 ⟨rfl, rfl⟩)
      | (go_at_call 59; (with_reducible refine (HY.out _).mono ?_); rintro e w1 ⟨rfl, rfl⟩))
    have hz1 := hb1.size
    go_loopw [9, 29] (fun bv iv wr => ∃ i b : Nat, i ≤ n ∧ b < n ∧ b ≤ i ∧ iv = .int .i64 i ∧ bv = .int .i64 b ∧ (0 < i → IsTop (farV dx dy l) i b) ∧ (i = 0 → b = 0) ∧ Below w.heap.size w wr) (fun _ iv _ => n - (intOf iv).toNat)
    case atStart => exact ⟨0, 0, by omega, by omega, by omega, rfl, rfl, fun h => absurd h (by omega), fun _ => rfl, hb1⟩
    case round =>
      obtain ⟨i, b, hi, hb, hbi, rfl, rfl, ht, hz, hbel⟩ := hrel
      by_cases hlt : i < n
      · obtain ⟨g, off, rfl, hg, hcells⟩ := flat_cells hr hl (by omega) (by omega)
        have hzr := hbel.size
        have c0 := (hbel.cell (p := ⟨g, off + i * 3, none⟩) (by simp; omega)).trans (hcells (i * 3) (by omega))
        have c1 := (hbel.cell (p := ⟨g, off + i * 3 + 1, none⟩) (by simp; omega)).trans (hcells (i * 3 + 1) (by omega))
        have c2 := (hbel.cell (p := ⟨g, off + i * 3 + 2, none⟩) (by simp; omega)).trans (hcells (i * 3 + 2) (by omega))
        have c3 := (hbel.cell (p := ⟨g, off + b * 3, none⟩) (by simp; omega)).trans (hcells (b * 3) (by omega))
        have c4 := (hbel.cell (p := ⟨g, off + b * 3 + 1, none⟩) (by simp; omega)).trans (hcells (b * 3 + 1) (by omega))
        obtain ⟨f1, f2, _⟩ := HBad.out i hlt
        obtain ⟨f3, f4, _⟩ := HBad.out b hb
        have m1 := mul_bd bx f1
        have m2 := mul_bd by_ f2
        have m3 := mul_bd bx f3
        have m4 := mul_bd by_ f4
        have e1 := farV_eq dx dy l i
        have e2 := farV_eq dx dy l b
        have HB := Lib.hid hbel
        have hbn : i = 0 ∨ IsTop (farV dx dy l) i b := by
          rcases Nat.eq_zero_or_pos i with h | h
          · exact .inl h
          · exact .inr (ht h)
        by_cases hcmp : farV dx dy l b < farV dx dy l i
        · have HN : Hid (IsTop (farV dx dy l) (i + 1) i) := Lib.hid (by
            rcases hbn with rfl | h
            · exact IsTop.one _
            · exact h.new hcmp)
          rw [e1, e2] at hcmp
          clear ht hz hbel hcells e1 e2 hbn f1 f2 f3 f4
          have c3 := fun o => (World.cell?_alloc_lt wr o _ (by show g < _; omega)).trans c3
          have c4 := fun o => (World.cell?_alloc_lt wr o _ (by show g < _; omega)).trans c4
          generalize l.getD (i * 3) 0 = xi at *
          generalize l.getD (i * 3 + 1) 0 = yi at *
          generalize l.getD (i * 3 + 2) 0 = wi at *
          generalize l.getD (b * 3) 0 = xb at *
          generalize l.getD (b * 3 + 1) 0 = yb at *
          have w1 : IntKind.i64.wrap (dx * xi) = dx * xi := by rw [IntKind.wrap_i64]; omega
          have w2 : IntKind.i64.wrap (dy * yi) = dy * yi := by rw [IntKind.wrap_i64]; omega
          have w3 : IntKind.i64.wrap (dx * xb) = dx * xb := by rw [IntKind.wrap_i64]; omega
          have w4 : IntKind.i64.wrap (dy * yb) = dy * yb := by rw [IntKind.wrap_i64]; omega
          have w5 : IntKind.i64.wrap (dx * xi + dy * yi) = dx * xi + dy * yi := by rw [IntKind.wrap_i64]; omega
          have w6 : IntKind.i64.wrap (dx * xb + dy * yb) = dx * xb + dy * yb := by rw [IntKind.wrap_i64]; omega
          have t1 : decide (dx * xb + dy * yb < dx * xi + dy * yi) = true := by simp <;> omega
          clear m1 m2 m3 m4
          go_wp2_with fail
          go_quiet (fail)
          go_wp2
          go_roundw
          case rel => exact ⟨i + 1, i, by omega, by omega, by omega, by go_num, rfl, fun _ => HN.out, fun h => absurd h (by omega), below_drewN (HB.out.alloc hzr _) _⟩
          case measure => simp [intOf]; omega
        · have HN : Hid (IsTop (farV dx dy l) (i + 1) b) := Lib.hid (by
            rcases hbn with h | h
            · have hb0 := hz h
              subst h; subst hb0; exact IsTop.one _
            · exact h.keep (by omega))
          have hcmp' : dx * l.getD (i * 3) 0 + dy * l.getD (i * 3 + 1) 0 ≤ dx * l.getD (b * 3) 0 + dy * l.getD (b * 3 + 1) 0 := by rw [← e1, ← e2]; omega
          clear ht hz hbel hcells e1 e2 hbn f1 f2 f3 f4 hcmp
          have c3 := fun o => (World.cell?_alloc_lt wr o _ (by show g < _; omega)).trans c3
          have c4 := fun o => (World.cell?_alloc_lt wr o _ (by show g < _; omega)).trans c4
          generalize l.getD (i * 3) 0 = xi at *
          generalize l.getD (i * 3 + 1) 0 = yi at *
          generalize l.getD (i * 3 + 2) 0 = wi at *
          generalize l.getD (b * 3) 0 = xb at *
          generalize l.getD (b * 3 + 1) 0 = yb at *
          have w1 : IntKind.i64.wrap (dx * xi) = dx * xi := by rw [IntKind.wrap_i64]; omega
          have w2 : IntKind.i64.wrap (dy * yi) = dy * yi := by rw [IntKind.wrap_i64]; omega
          have w3 : IntKind.i64.wrap (dx * xb) = dx * xb := by rw [IntKind.wrap_i64]; omega
          have w4 : IntKind.i64.wrap (dy * yb) = dy * yb := by rw [IntKind.wrap_i64]; omega
          have w5 : IntKind.i64.wrap (dx * xi + dy * yi) = dx * xi + dy * yi := by rw [IntKind.wrap_i64]; omega
          have w6 : IntKind.i64.wrap (dx * xb + dy * yb) = dx * xb + dy * yb := by rw [IntKind.wrap_i64]; omega
          have t1 : decide (dx * xb + dy * yb < dx * xi + dy * yi) = false := by simp <;> omega
          clear m1 m2 m3 m4
          go_wp2_with fail
          go_quiet (fail)
          go_wp2
          go_roundw
          case rel => exact ⟨i + 1, b, by omega, by omega, by omega, by go_num, rfl, fun _ => HN.out, fun h => absurd h (by omega), below_drewN (HB.out.alloc hzr _) _⟩
          case measure => simp [intOf]; omega
      · obtain rfl : i = n := by omega
        have HE : Hid (b = i0) := Lib.hid ((ht (by omega)).uniq HTop.out hb hi0)
        have HB := Lib.hid hbel
        clear hbel ht hz
        go_wp2
        go_ret2
        exact ⟨ret2 (vnat HE.out) rfl, HB.out⟩
end Go.Proofs.Ytmcfdlijkcibbaa
