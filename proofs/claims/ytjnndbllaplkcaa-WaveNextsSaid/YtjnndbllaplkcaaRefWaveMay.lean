/-
  Contract of the reference's WaveMay. Conditions: the wave can be read as data.
-/
import Derived.Test.YtjnndbllaplkcaaWaveMay
namespace Go.Proofs.Ytjnndbllaplkcaa
open Go Go.RowKit Go.Dam
set_option linter.unusedVariables false
set_option maxRecDepth 100000 in
set_option maxHeartbeats 8000000 in
theorem refWaveMay_any (v : Value) (rs : List (Int × List Nat)) (r : Bool) (w : World) (B : Nat) (hB : B ≤ w.heap.size) (h : IsWave w B v rs) (hR : r = mayW rs) :
    Calls Try.prog 71 #[v] w fun e w' => e = .returned (.bool r) ∧ Below w.heap.size w w' := by
  obtain ⟨s, rfl, h⟩ := h
  have HI := Lib.hid h
  have HR := Lib.hid hR
  clear hR
  obtain ⟨A, c, vs, rfl, hc, hm, hn, _, _⟩ := h
  by_cases h21 : 21 < rs.length
  · obtain rfl : r = false := HR.out.trans (mayW_no fun h => by have := h.1; omega)
    clear HI
    go_enter Try.func71, Try.ntmps71
    go_wp2_with fail
    go_ret
    exact ⟨rfl, (Below.refl _ _).alloc (Nat.le_refl _) _⟩
  have h21' : ¬ (21 : Int) < (rs.length : Int) := by omega
  go_enter Try.func71, Try.ntmps71
  go_wp2_with fail
  go_loopw [12] (fun iv wr => ∃ i : Nat, i ≤ rs.length ∧ iv = .int .i64 i ∧ (∀ j, j < i → okW rs j = true) ∧ (0 < i → lenW rs ≤ 300) ∧ Below (w.heap.size + 1) (w.alloc (.cells #[.slice A rs.length c] 25)) wr) (fun iv _ => rs.length - (intOf iv).toNat)
  case atStart => exact ⟨0, by omega, rfl, (fun j hj => absurd hj (by omega)), (fun h => absurd h (by omega)), Below.refl _ _⟩
  case round =>
    obtain ⟨i, hi, rfl, hall, h300, hbel⟩ := hrel
    have k1 : wr.cell? ⟨w.heap.size, 0, none⟩ = some (.slice A rs.length c) := (hbel.cell (p := ⟨w.heap.size, 0, none⟩) (by simp)).trans (by simp)
    have hz2 : w.heap.size + 1 ≤ wr.heap.size := by have := hbel.size; simpa using this
    have HBT : Hid (Below w.heap.size w wr) := Lib.hid (((Below.refl _ _).alloc (Nat.le_refl _) _).trans (hbel.mono (by omega)))
    have HBe := Lib.hid hbel
    have HAll := Lib.hid hall
    have H300 := Lib.hid h300
    clear hbel hall h300
    by_cases hlt : i < rs.length
    · obtain ⟨_, b, off, rfl, hb, hrow⟩ := rows_at HI.out (by omega)
      obtain ⟨sv, c0, c1, hi64, hws⟩ := hrow i hlt
      obtain ⟨_, z0, _, _, _⟩ := hrow 0 (by omega)
      rw [Nat.zero_mul, Nat.add_zero, ← lenW_eq] at z0
      have hws2 := hws
      obtain ⟨As, cs, rfl, _⟩ := hws2
      have d0 := (HBT.out.cell (p := ⟨b, off + i * 2, none⟩) (by simp; omega)).trans c0
      have d1 := (HBT.out.cell (p := ⟨b, off + i * 2 + 1, none⟩) (by simp; omega)).trans c1
      have d2 := (HBT.out.cell (p := ⟨b, off, none⟩) (by simp; omega)).trans z0
      have hok : okW rs i = true ↔ _ := okW_iff
      have hbw : b < w.heap.size := by omega
      have hl0 : 0 < rs.length := by omega
      have hl0' : (0 : Int) < (rs.length : Int) := by omega
      have hne : ∀ h : ((rs.getD i (0, [])).1 ≠ lenW rs), ((rs.getD i (0, [])).1 != lenW rs) = true := fun h => by simpa using h
      clear hrow c0 c1 z0
      generalize (rs.getD i (0, [])).1 = ln at *
      generalize (rs.getD i (0, [])).2 = wl at *
      have hA := (Below.refl wr.heap.size wr).alloc (Nat.le_refl _) (.cells #[.int .i64 ln, .slice As wl.length cs] 32)
      have HW0 := Lib.hid fun d os => (HBT.out.trans (hA.mono (by omega))).trans ((below_regrown (wr.alloc (.cells #[.int .i64 ln, .slice As wl.length cs] 32)) d os).mono (by simp; omega))
      have HMay := Lib.hid fun d os => Calls.regrown_of (refMay_any (.agg #[.int .i64 ln, .slice As wl.length cs]) ln wl (Sort.grow (redrawn (wr.alloc (.cells #[.int .i64 ln, .slice As wl.length cs] 32)) d) os) B (Nat.le_trans hB (HW0.out d os).size) ⟨_, rfl, hi64, hws.below ((HW0.out d os).mono hB)⟩)
      have p0 : (wr.alloc (.cells #[.int .i64 ln, .slice As wl.length cs] 32)).cell? ⟨wr.heap.size, 0, none⟩ = some (.int .i64 ln) := by simp
      have p1 : (wr.alloc (.cells #[.int .i64 ln, .slice As wl.length cs] 32)).cell? ⟨wr.heap.size, 1, none⟩ = some (.slice As wl.length cs) := by simp
      have p2 := (hA.cell (p := ⟨w.heap.size, 0, none⟩) (by simp; omega)).trans k1
      have p3 := (hA.cell (p := ⟨b, off, none⟩) (by simp; omega)).trans d2
      have q0 := fun d os => cell_regrown p0 d os
      have q1 := fun d os => cell_regrown p1 d os
      have q2 := fun d os => cell_regrown p2 d os
      have q3 := fun d os => cell_regrown p3 d os
      clear p0 p1 p2 p3 hA
      cases hmb : mayBits ln wl with
      | false =>
        rw [hmb] at HMay
        obtain rfl : r = false := HR.out.trans (mayW_no fun h => by have := hok.1 (h.2.2 i hlt); rw [hmb] at this; exact absurd this.1 (by decide))
        clear hok hne hmb hws
        go_wp2_with fail
        refine wp_region_quiet_below (by kernel_rfl) (by kernel_rfl) ?_
        repeat (quiet_step ((go_at_call 92; exact HMay.out _ _)))
        refine wpQuiet_nil ?_
        intro _ hw'
        obtain ⟨⟨dq, osq⟩, hw''⟩ := hw'
        subst hw''
        have HW := Lib.hid (below_regrown (wr.alloc (.cells #[.int .i64 ln, .slice As wl.length cs] 32)) dq osq)
        generalize Sort.grow (redrawn (wr.alloc (.cells #[.int .i64 ln, .slice As wl.length cs] 32)) dq) osq = w5 at *
        clear q0 q1 q2 q3
        go_wp2_with fail
        go_ret
        exact ⟨rfl, HBT.out.trans (((Below.refl _ _).alloc (by omega) _).trans (HW.out.mono (by simp; omega)))⟩
      | true =>
        rw [hmb] at HMay
        by_cases hlen : ln = lenW rs
        · by_cases hbig : 300 < lenW rs
          · obtain rfl : r = false := HR.out.trans (mayW_no fun h => by have := h.2.1; omega)
            subst hlen
            clear hok hne hmb hws
            go_wp2_with fail
            refine wp_region_quiet_below (by kernel_rfl) (by kernel_rfl) ?_
            repeat (quiet_step ((go_at_call 92; exact HMay.out _ _)))
            refine wpQuiet_nil ?_
            intro _ hw'
            obtain ⟨⟨dq, osq⟩, hw''⟩ := hw'
            subst hw''
            have HW := Lib.hid (below_regrown (wr.alloc (.cells #[.int .i64 (lenW rs), .slice As wl.length cs] 32)) dq osq)
            generalize Sort.grow (redrawn (wr.alloc (.cells #[.int .i64 (lenW rs), .slice As wl.length cs] 32)) dq) osq = w5 at *
            clear q0 q1 q2 q3
            go_wp2_with fail
            go_ret
            exact ⟨rfl, HBT.out.trans (((Below.refl _ _).alloc (by omega) _).trans (HW.out.mono (by simp; omega)))⟩
          · have HOk : Hid (∀ j, j < i + 1 → okW rs j = true) := Lib.hid fun j hj => by
              rcases Nat.lt_or_eq_of_le (Nat.le_of_lt_succ hj) with g | g
              · exact HAll.out j g
              · rw [g]; exact hok.2 ⟨hmb, hlen⟩
            subst hlen
            clear hok hne hmb hws
            go_wp2_with fail
            refine wp_region_quiet_below (by kernel_rfl) (by kernel_rfl) ?_
            repeat (quiet_step ((go_at_call 92; exact HMay.out _ _)))
            refine wpQuiet_nil ?_
            intro _ hw'
            obtain ⟨⟨dq, osq⟩, hw''⟩ := hw'
            subst hw''
            have HW := Lib.hid (below_regrown (wr.alloc (.cells #[.int .i64 (lenW rs), .slice As wl.length cs] 32)) dq osq)
            generalize Sort.grow (redrawn (wr.alloc (.cells #[.int .i64 (lenW rs), .slice As wl.length cs] 32)) dq) osq = w5 at *
            clear q0 q1 q2 q3
            go_wp2_with fail
            go_roundw
            case rel => exact ⟨i + 1, by omega, by go_num, HOk.out, (fun _ => by omega), HBe.out.trans (((Below.refl _ _).alloc (by omega) _).trans (HW.out.mono (by simp; omega)))⟩
            case measure => simp [intOf]; omega
        · obtain rfl : r = false := HR.out.trans (mayW_no fun h => hlen (hok.1 (h.2.2 i hlt)).2)
          have hd := hne hlen
          clear hok hne hmb hws
          go_wp2_with fail
          refine wp_region_quiet_below (by kernel_rfl) (by kernel_rfl) ?_
          repeat (quiet_step ((go_at_call 92; exact HMay.out _ _)))
          refine wpQuiet_nil ?_
          intro _ hw'
          obtain ⟨⟨dq, osq⟩, hw''⟩ := hw'
          subst hw''
          have HW := Lib.hid (below_regrown (wr.alloc (.cells #[.int .i64 ln, .slice As wl.length cs] 32)) dq osq)
          generalize Sort.grow (redrawn (wr.alloc (.cells #[.int .i64 ln, .slice As wl.length cs] 32)) dq) osq = w5 at *
          clear q0 q1 q2 q3
          go_wp2_with fail
          go_ret
          exact ⟨rfl, HBT.out.trans (((Below.refl _ _).alloc (by omega) _).trans (HW.out.mono (by simp; omega)))⟩
    · obtain rfl : i = rs.length := by omega
      have hl3 : lenW rs ≤ 300 := by
        rcases Nat.eq_zero_or_pos rs.length with h | h
        · rw [List.length_eq_zero_iff.1 h, lenW_0]; decide
        · exact H300.out h
      obtain rfl : r = true := HR.out.trans (mayW_yes ⟨by omega, hl3, HAll.out⟩)
      go_wp2_with fail
      go_ret
      exact ⟨rfl, HBT.out⟩
end Go.Proofs.Ytjnndbllaplkcaa
