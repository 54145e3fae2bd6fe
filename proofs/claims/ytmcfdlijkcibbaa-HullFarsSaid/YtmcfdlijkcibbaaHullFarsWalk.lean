/-
  Contract of the reference's HullFar and the walk of the law HullFars: both answer one place and one code. Conditions: the arguments can be read as data.
-/
import Derived.Test.YtmcfdlijkcibbaaHullFar
namespace Go.Proofs.Ytmcfdlijkcibbaa
open Go Go.RowKit Go.Dam
set_option linter.unusedVariables false
set_option maxHeartbeats 1000000 in
theorem refHullFar_any (v : Value) (n : Nat) (l : List Int) (dx dy r cc : Int) (w : World) (B : Nat) (hB : B ≤ w.heap.size) (h : IsFlat 3 w B v n l) (hR : FarR n l dx dy r cc) :
    Calls Try.prog 39 #[v, .int .i64 dx, .int .i64 dy] w fun e w' => e = .returned (.tuple #[.int .i64 r, .int .i64 cc]) ∧ Below w.heap.size w w' := by
  have HC := Lib.hid (refHullFault_any v n l w B hB h)
  obtain ⟨A, c, rfl, hc, hm, hn, hl, hr, hw⟩ := h
  rcases hR with ⟨h0, rfl, rfl⟩ | ⟨h0, h1, rfl, rfl⟩ | ⟨h0, hx, hy, ⟨i0, hi0, rfl, htop⟩, rfl⟩
  · generalize hullCode n l = cc at *
    have t0 : (cc != 0) = true := by simpa using h0
    clear h0 hl hr hw
    go_enter Try.func39, Try.ntmps39
    go_wp2_with (go_at_call 60; refine (HC.out).mono ?_; rintro e w1 ⟨rfl, hb1⟩)
    go_ret2
    exact ⟨rfl, hb1⟩
  · rw [h0] at HC
    clear h0 hl hr hw
    cases hx : coordOk dx with
    | false =>
      clear h1
      have HX := Lib.hid fun W => coordMay_any dx false W hx
      clear hx
      go_enter Try.func39, Try.ntmps39
      go_wp2_with (first
        | (go_at_call 60; refine (HC.out).mono ?_; rintro e w1 ⟨rfl, hb1⟩)
        | (go_at_call 49; refine (HX.out _).mono ?_; rintro e w1 ⟨rfl, rfl⟩))
      go_ret2
      exact ⟨rfl, hb1⟩
    | true =>
      rw [hx, Bool.true_and] at h1
      have HX := Lib.hid fun W => coordMay_any dx true W hx
      have HY := Lib.hid fun W => coordMay_any dy false W h1
      clear hx h1
      go_enter Try.func39, Try.ntmps39
      go_wp2_with (first
        | (go_at_call 60; refine (HC.out).mono ?_; rintro e w1 ⟨rfl, hb1⟩)
        | (go_at_call 49; (with_reducible refine (HX.out _).mono ?_); rintro e w1 ⟨rfl, rfl⟩)
        | (go_at_call 49; (with_reducible refine (HY.out _).mono ?_); rintro e w1 ⟨rfl, rfl⟩))
      go_ret2
      exact ⟨rfl, hb1⟩
  · rw [h0] at HC
    obtain ⟨hn150, hbad⟩ := ptCode_ok (hullCode_ok h0).1
    have HX := Lib.hid fun W => coordMay_any dx true W hx
    have HY := Lib.hid fun W => coordMay_any dy true W hy
    have bx := coordOk_yes hx
    have by_ := coordOk_yes hy
    have HBad := Lib.hid fun i (hi : i < n) => badPt_fine (hbad i hi)
    have HTop := Lib.hid htop
    clear h0 hx hy hbad htop
    go_enter Try.func39, Try.ntmps39
    go_wp2_with (first
      | (go_at_call 60; refine (HC.out).mono ?_; rintro e w1 ⟨rfl, hb1⟩)
      | (go_at_call 49; (with_reducible refine (HX.out _).mono ?_); rintro e w1 ⟨rfl, rfl⟩)
      | (go_at_call 49; (with_reducible refine (HY.out _).mono ?_); rintro e w1 ⟨rfl, rfl⟩))
    have hz1 := hb1.size
    go_loopw [27] (fun iv wr => ∃ i : Nat, i ≤ i0 ∧ iv = .int .i64 i ∧ Below w.heap.size w wr) (fun iv _ => n - (intOf iv).toNat)
    case atStart => exact ⟨0, by omega, rfl, hb1⟩
    case round =>
      obtain ⟨i, hi, rfl, hbel⟩ := hrel
      have hlt : i < n := by omega
      obtain ⟨wo, rfl⟩ : ∃ wo : World, wo = wr := ⟨_, rfl⟩
      obtain ⟨f1, f2, _⟩ := HBad.out i hlt
      have m1 := mul_bd bx f1
      have m2 := mul_bd by_ f2
      have HE1 := Lib.hid (farV_eq dx dy l i)
      have HBel := Lib.hid hbel
      obtain ⟨g, off, rfl, hg, hcells⟩ := flat_cells hr hl (by omega) (by omega)
      have HCells := Lib.hid fun j (hj : j < n * 3) => (hbel.cell (p := ⟨g, off + j, none⟩) (by simp; omega)).trans (hcells j hj)
      clear hcells hbel hr f1 f2
      go_wp2
      go_loopw [10, 32] (fun mv kv wr => ∃ k : Nat, ∃ m : Bool, k ≤ n ∧ kv = .int .i64 k ∧ mv = .bool m ∧ (m = true → ∀ j, j < k → farV dx dy l j ≤ farV dx dy l i) ∧ (m = false → ∃ j, j < n ∧ farV dx dy l i < farV dx dy l j) ∧ Drawn wo wr) (fun _ kv _ => n - (intOf kv).toNat)
      case atStart => exact ⟨0, true, by omega, rfl, rfl, fun _ j hj => absurd hj (by omega), (fun h => by cases h), Drawn.refl _⟩
      case round =>
        obtain ⟨k, m, hk, rfl, rfl, hyes, hno, hd⟩ := hrel
        by_cases hkn : k < n
        · have c0 := (hd.cell ⟨g, off + k * 3, none⟩).trans (HCells.out (k * 3) (by omega))
          have c1 := (hd.cell ⟨g, off + k * 3 + 1, none⟩).trans (HCells.out (k * 3 + 1) (by omega))
          have c3 := (hd.cell ⟨g, off + i * 3, none⟩).trans (HCells.out (i * 3) (by omega))
          have c4 := (hd.cell ⟨g, off + i * 3 + 1, none⟩).trans (HCells.out (i * 3 + 1) (by omega))
          obtain ⟨f3, f4, _⟩ := HBad.out k hkn
          have m3 := mul_bd bx f3
          have m4 := mul_bd by_ f4
          have e2 := farV_eq dx dy l k
          have e1 := HE1.out
          have HD := Lib.hid hd
          cases m with
          | false =>
            have HNo := Lib.hid (hno rfl)
            clear hyes hno hd e1 e2 c0 c1 c3 c4 f3 f4
            go_wp2_with fail
            go_quiet (fail)
            go_wp2
            go_roundw
            case rel => exact ⟨k + 1, false, by omega, by go_num, rfl, (fun h => by cases h), (fun _ => HNo.out), HD.out.drewN _⟩
            case measure => simp [intOf]; omega
          | true =>
            have HYes := Lib.hid (hyes rfl)
            by_cases hcmp : farV dx dy l k ≤ farV dx dy l i
            · have HN := Lib.hid hcmp
              have hcmp' : decide (dx * l.getD (k * 3) 0 + dy * l.getD (k * 3 + 1) 0 ≤ dx * l.getD (i * 3) 0 + dy * l.getD (i * 3 + 1) 0) = true := by rw [← e1, ← e2]; simpa using hcmp
              clear hyes hno hd e1 e2 f3 f4 hcmp
              generalize l.getD (i * 3) 0 = xi at *
              generalize l.getD (i * 3 + 1) 0 = yi at *
              generalize l.getD (k * 3) 0 = xb at *
              generalize l.getD (k * 3 + 1) 0 = yb at *
              go_wp2_with fail
              go_quiet (fail)
              go_wp2
              go_roundw
              case rel =>
                refine ⟨k + 1, true, by omega, by go_num, rfl, (fun _ j hj => ?_), (fun h => by cases h), HD.out.drewN _⟩
                rcases Nat.lt_or_ge j k with h1 | h1
                · exact HYes.out j h1
                · rw [show j = k from by omega]; exact HN.out
              case measure => simp [intOf]; omega
            · have HN : Hid (farV dx dy l i < farV dx dy l k) := Lib.hid (by omega)
              have hcmp' : decide (dx * l.getD (k * 3) 0 + dy * l.getD (k * 3 + 1) 0 ≤ dx * l.getD (i * 3) 0 + dy * l.getD (i * 3 + 1) 0) = false := by rw [← e1, ← e2]; simpa using hcmp
              clear hyes hno hd e1 e2 f3 f4 hcmp
              generalize l.getD (i * 3) 0 = xi at *
              generalize l.getD (i * 3 + 1) 0 = yi at *
              generalize l.getD (k * 3) 0 = xb at *
              generalize l.getD (k * 3 + 1) 0 = yb at *
              go_wp2_with fail
              go_quiet (fail)
              go_wp2
              go_roundw
              case rel => exact ⟨k + 1, false, by omega, by go_num, rfl, (fun h => by cases h), (fun _ => ⟨k, hkn, HN.out⟩), HD.out.drewN _⟩
              case measure => simp [intOf]; omega
        · obtain rfl : k = n := by omega
          have HD := Lib.hid hd
          cases m with
          | true =>
            have HE : Hid (i = i0) := Lib.hid (by
              rcases Nat.lt_or_ge i i0 with h1 | h1
              · have a := HTop.out.2 i h1
                have b := hyes rfl i0 hi0
                omega
              · omega)
            clear hyes hno hd
            go_wp2
            go_ret2
            exact ⟨ret2 (vnat HE.out) rfl, HBel.out.trans (HD.out.below _)⟩
          | false =>
            have hii : i < i0 := by
              rcases Nat.lt_or_ge i i0 with h1 | h1
              · exact h1
              · obtain rfl : i = i0 := by omega
                obtain ⟨j, hj, hlt⟩ := hno rfl
                have := HTop.out.1 j hj
                omega
            clear hyes hno hd
            go_wp2
            go_roundw
            case rel => exact ⟨i + 1, by omega, by go_num, HBel.out.trans (HD.out.below _)⟩
            case measure => simp [intOf]; omega
set_option maxHeartbeats 400000 in
theorem hullFars_walk (v u1 u2 : Value) (w : World) (h : ∃ n l, IsFlat 3 w w.heap.size v n l) (h1 : ∃ x : Int, u1 = .int .i64 x ∧ I64 x) (h2 : ∃ x : Int, u2 = .int .i64 x ∧ I64 x) :
    Calls Try.prog 14 #[v, u1, u2] w fun e w' => e = .returned (.bool true) ∧ Below w.heap.size w w' := by
  obtain ⟨n, l, h⟩ := h
  obtain ⟨dx, rfl, hx⟩ := h1
  obtain ⟨dy, rfl, hy⟩ := h2
  obtain ⟨r, cc, hR⟩ := FarR.ex n l dx dy
  have H1 := Lib.hid (hullFar_any v n l dx dy r cc w _ (Nat.le_refl _) h hR)
  have H2 := Lib.hid fun W (hb : Below w.heap.size w W) => refHullFar_any v n l dx dy r cc W _ hb.size (h.below hb) hR
  obtain ⟨A, c, rfl, hc, hm, hn, hl, hr, hw⟩ := h
  clear hr hl hw hR hx hy
  go_enter Try.func14, Try.ntmps14
  go_wp2_with (first
    | (go_at_call 38; refine (H1.out).mono ?_; rintro e w1 ⟨rfl, hb1⟩)
    | (go_at_call 39; refine (H2.out _ hb1).mono ?_; rintro e w2 ⟨rfl, hb2⟩))
  all_goals (go_ret; exact ⟨ret_bool (by simp), hb1.trans (hb2.mono hb1.size)⟩)
end Go.Proofs.Ytmcfdlijkcibbaa
