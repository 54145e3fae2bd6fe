/-
  Contracts of wave.length and wave.May. Conditions: the wave can be read as data.
-/
import Derived.Test.YtdmfhpigchbcbaaMTopCover09
import Derived.Test.YtdmfhpigchbcbaaMTopCover11
import Derived.Lib.QuietBelow
namespace Go.Dam
open Go Go.RowKit
set_option linter.unusedVariables false
def lenW (rs : List (Int × List Nat)) : Int := (rs.getD 0 (0, [])).1
theorem lenW_0 : lenW [] = 0 := rfl
theorem lenW_eq (rs : List (Int × List Nat)) : lenW rs = (rs.getD 0 (0, [])).1 := rfl
def okW (rs : List (Int × List Nat)) (i : Nat) : Bool := mayBits (rs.getD i (0, [])).1 (rs.getD i (0, [])).2 && ((rs.getD i (0, [])).1 == lenW rs)
theorem okW_iff {rs : List (Int × List Nat)} {i : Nat} : okW rs i = true ↔ mayBits (rs.getD i (0, [])).1 (rs.getD i (0, [])).2 = true ∧ (rs.getD i (0, [])).1 = lenW rs := by unfold okW; simp
/-- May a wave be? -/
def MayWave (rs : List (Int × List Nat)) : Prop := rs.length ≤ 21 ∧ lenW rs ≤ 300 ∧ ∀ i, i < rs.length → okW rs i = true
open Classical in
noncomputable def mayW (rs : List (Int × List Nat)) : Bool := decide (MayWave rs)
theorem mayW_iff {rs : List (Int × List Nat)} : mayW rs = true ↔ MayWave rs := by unfold mayW; simp
theorem mayW_yes {rs : List (Int × List Nat)} (h : MayWave rs) : mayW rs = true := mayW_iff.2 h
theorem mayW_no {rs : List (Int × List Nat)} (h : ¬ MayWave rs) : mayW rs = false := by
  cases hb : mayW rs with
  | false => rfl
  | true => exact absurd (mayW_iff.1 hb) h
theorem firstW (rs : List (Int × List Nat)) : ∀ n, (∀ i, i < n → okW rs i = true) ∨ ∃ i, i < n ∧ okW rs i = false
  | 0 => .inl fun i hi => absurd hi (by omega)
  | n + 1 => by
    rcases firstW rs n with h | ⟨i, hi, h⟩
    · cases hb : okW rs n with
      | true =>
        refine .inl fun i hi => ?_
        rcases Nat.lt_or_eq_of_le (Nat.le_of_lt_succ hi) with g | g
        · exact h i g
        · rw [g]; exact hb
      | false => exact .inr ⟨n, Nat.lt_succ_self _, hb⟩
    · exact .inr ⟨i, by omega, h⟩
attribute [irreducible] lenW okW mayW
end Go.Dam
namespace Go.Proofs.Ytdmfhpigchbcbaa
open Go Go.RowKit Go.Dam
set_option linter.unusedVariables false
set_option maxHeartbeats 400000 in
theorem waveLen_any (v : Value) (rs : List (Int × List Nat)) (w : World) (B : Nat) (hB : B ≤ w.heap.size) (h : IsWave w B v rs) :
    Calls Try.prog 43 #[v] w fun e w' => e = .returned (.int .i64 (lenW rs)) ∧ Below w.heap.size w w' := by
  obtain ⟨s, rfl, h⟩ := h
  have h0 := h
  obtain ⟨A, c, vs, rfl, hc, hm, hn, _, _⟩ := h
  by_cases hl : rs.length = 0
  · obtain rfl : rs = [] := List.length_eq_zero_iff.1 hl
    rw [lenW_0]
    clear h0
    go_enter Try.func43, Try.ntmps43
    go_wp2_with fail
    go_ret
    exact ⟨rfl, (Below.refl _ _).alloc (Nat.le_refl _) _⟩
  · obtain ⟨_, b, off, rfl, hb, hrow⟩ := rows_at h0 (by omega)
    obtain ⟨sv, k0, _⟩ := hrow 0 (by omega)
    rw [Nat.zero_mul, Nat.add_zero, ← lenW_eq] at k0
    have hbw : b < w.heap.size := by omega
    have hl2 : 0 < rs.length := by omega
    clear h0 hrow
    go_enter Try.func43, Try.ntmps43
    go_wp2_with fail
    go_ret
    exact ⟨rfl, (Below.refl _ _).alloc (Nat.le_refl _) _⟩
set_option maxRecDepth 100000 in
set_option maxHeartbeats 1000000 in
theorem waveMay_any (v : Value) (rs : List (Int × List Nat)) (r : Bool) (w : World) (B : Nat) (hB : B ≤ w.heap.size) (h : IsWave w B v rs) (hR : r = mayW rs) :
    Calls Try.prog 42 #[v] w fun e w' => e = .returned (.bool r) ∧ Below w.heap.size w w' := by
  have HLen := Lib.hid fun W (hW : Below B w W) (hz : B ≤ W.heap.size) => waveLen_any v rs W B hz (h.below hW)
  obtain ⟨s, rfl, h⟩ := h
  have HI := Lib.hid h
  have HR := Lib.hid hR
  clear hR
  obtain ⟨A, c, vs, rfl, hc, hm, hn, _, _⟩ := h
  by_cases h21 : 21 < rs.length
  · obtain rfl : r = false := HR.out.trans (mayW_no fun h => by have := h.1; omega)
    clear HI HLen
    go_enter Try.func42, Try.ntmps42
    go_wp2_with fail
    go_ret
    exact ⟨rfl, (Below.refl _ _).alloc (Nat.le_refl _) _⟩
  have h21' : ¬ (21 : Int) < (rs.length : Int) := by omega
  by_cases h300 : 300 < lenW rs
  · obtain rfl : r = false := HR.out.trans (mayW_no fun h => by have := h.2.1; omega)
    clear HI
    go_enter Try.func42, Try.ntmps42
    go_wp2_with (go_at_call 43; refine (HLen.out _ ((Below.refl _ _).alloc hB _) (box_le hB)).mono ?_; rintro e w1 ⟨rfl, hb⟩)
    go_ret
    exact ⟨rfl, below_box hb⟩
  go_enter Try.func42, Try.ntmps42
  go_wp2_with (go_at_call 43; refine (HLen.out _ ((Below.refl _ _).alloc hB _) (box_le hB)).mono ?_; rintro e w1 ⟨rfl, hb⟩; have k0 : w1.cell? ⟨w.heap.size, 0, none⟩ = some (.slice A rs.length c) := (hb.cell (p := ⟨w.heap.size, 0, none⟩) (by simp)).trans (by simp); have HB1 := Lib.hid hb; have hz1 := size_box hb; clear hb)
  go_loopw [17] (fun iv wr => ∃ i : Nat, i ≤ rs.length ∧ iv = .int .i64 i ∧ (∀ j, j < i → okW rs j = true) ∧ Below w1.heap.size w1 wr) (fun iv _ => rs.length - (intOf iv).toNat)
  case atStart => exact ⟨0, by omega, rfl, fun j hj => absurd hj (by omega), Below.refl _ _⟩
  case round =>
    obtain ⟨i, hi, rfl, hall, hbel⟩ := hrel
    have k1 := (hbel.cell (p := ⟨w.heap.size, 0, none⟩) hz1).trans k0
    have hz2 := hbel.size
    have HBT := Lib.hid ((below_box HB1.out).trans (hbel.mono (Nat.le_of_lt hz1)))
    have HBe := Lib.hid hbel
    have HAll := Lib.hid hall
    clear hbel hall k0
    by_cases hlt : i < rs.length
    · obtain ⟨_, b, off, rfl, hb, hrow⟩ := rows_at HI.out (by omega)
      obtain ⟨sv, c0, c1, hi64, hws⟩ := hrow i hlt
      have hws2 := hws
      obtain ⟨As, cs, rfl, _⟩ := hws2
      have d0 := (HBT.out.cell (p := ⟨b, off + i * 2, none⟩) (by simp; omega)).trans c0
      have d1 := (HBT.out.cell (p := ⟨b, off + i * 2 + 1, none⟩) (by simp; omega)).trans c1
      have hok : okW rs i = true ↔ _ := okW_iff
      have hbw : b < w.heap.size := by omega
      have hne : ∀ h : ((rs.getD i (0, [])).1 ≠ lenW rs), ((rs.getD i (0, [])).1 != lenW rs) = true := fun h => by simpa using h
      clear hrow c0 c1
      generalize (rs.getD i (0, [])).1 = ln at *
      generalize (rs.getD i (0, [])).2 = wl at *
      have hA := (Below.refl wr.heap.size wr).alloc (Nat.le_refl _) (.cells #[.int .i64 ln, .slice As wl.length cs] 73)
      have HW0 := Lib.hid fun d os => (HBT.out.trans (hA.mono (by omega))).trans ((below_regrown (wr.alloc (.cells #[.int .i64 ln, .slice As wl.length cs] 73)) d os).mono (by simp; omega))
      have HMay := Lib.hid fun d os => Calls.regrown_of (may_any (.agg #[.int .i64 ln, .slice As wl.length cs]) ln wl (Sort.grow (redrawn (wr.alloc (.cells #[.int .i64 ln, .slice As wl.length cs] 73)) d) os) B (Nat.le_trans hB (HW0.out d os).size) ⟨_, rfl, hi64, hws.below ((HW0.out d os).mono hB)⟩)
      have HLenQ := Lib.hid fun d os => Calls.regrown_of (HLen.out (Sort.grow (redrawn (wr.alloc (.cells #[.int .i64 ln, .slice As wl.length cs] 73)) d) os) ((HW0.out d os).mono hB) (Nat.le_trans hB (HW0.out d os).size))
      have p0 : (wr.alloc (.cells #[.int .i64 ln, .slice As wl.length cs] 73)).cell? ⟨wr.heap.size, 0, none⟩ = some (.int .i64 ln) := by simp
      have p1 : (wr.alloc (.cells #[.int .i64 ln, .slice As wl.length cs] 73)).cell? ⟨wr.heap.size, 1, none⟩ = some (.slice As wl.length cs) := by simp
      have p2 := (hA.cell (p := ⟨w.heap.size, 0, none⟩) (by simp; omega)).trans k1
      have q0 := fun d os => cell_regrown p0 d os
      have q1 := fun d os => cell_regrown p1 d os
      have q2 := fun d os => cell_regrown p2 d os
      clear p0 p1 p2 hA
      cases hmb : mayBits ln wl with
      | false =>
        rw [hmb] at HMay
        obtain rfl : r = false := HR.out.trans (mayW_no fun h => by have := hok.1 (h.2.2 i hlt); rw [hmb] at this; exact absurd this.1 (by decide))
        clear hok hne hmb hws
        go_wp2_with fail
        refine wp_region_quiet_below (by kernel_rfl) (by kernel_rfl) ?_
        repeat (quiet_step ((first | (go_at_call 62; exact HMay.out _ _) | (go_at_call 43; exact HLenQ.out _ _))))
        refine wpQuiet_nil ?_
        intro _ hw'
        obtain ⟨⟨dq, osq⟩, hw''⟩ := hw'
        subst hw''
        have HW := Lib.hid (below_regrown (wr.alloc (.cells #[.int .i64 ln, .slice As wl.length cs] 73)) dq osq)
        generalize Sort.grow (redrawn (wr.alloc (.cells #[.int .i64 ln, .slice As wl.length cs] 73)) dq) osq = w5 at *
        clear q0 q1 q2
        go_wp2_with fail
        go_ret
        exact ⟨rfl, HBT.out.trans (((Below.refl _ _).alloc (by omega) _).trans (HW.out.mono (by simp; omega)))⟩
      | true =>
        rw [hmb] at HMay
        by_cases hlen : ln = lenW rs
        · have HOk : Hid (∀ j, j < i + 1 → okW rs j = true) := Lib.hid fun j hj => by
            rcases Nat.lt_or_eq_of_le (Nat.le_of_lt_succ hj) with g | g
            · exact HAll.out j g
            · rw [g]; exact hok.2 ⟨hmb, hlen⟩
          subst hlen
          clear hok hne hmb hws
          go_wp2_with fail
          refine wp_region_quiet_below (by kernel_rfl) (by kernel_rfl) ?_
          repeat (quiet_step ((first | (go_at_call 62; exact HMay.out _ _) | (go_at_call 43; exact HLenQ.out _ _))))
          refine wpQuiet_nil ?_
          intro _ hw'
          obtain ⟨⟨dq, osq⟩, hw''⟩ := hw'
          subst hw''
          have HW := Lib.hid (below_regrown (wr.alloc (.cells #[.int .i64 (lenW rs), .slice As wl.length cs] 73)) dq osq)
          generalize Sort.grow (redrawn (wr.alloc (.cells #[.int .i64 (lenW rs), .slice As wl.length cs] 73)) dq) osq = w5 at *
          clear q0 q1 q2
          go_wp2_with fail
          go_roundw
          case rel => exact ⟨i + 1, by omega, by go_num, HOk.out, HBe.out.trans (((Below.refl _ _).alloc (by omega) _).trans (HW.out.mono (by simp; omega)))⟩
          case measure => simp [intOf]; omega
        · obtain rfl : r = false := HR.out.trans (mayW_no fun h => hlen (hok.1 (h.2.2 i hlt)).2)
          have hd := hne hlen
          clear hok hne hmb hws
          go_wp2_with fail
          refine wp_region_quiet_below (by kernel_rfl) (by kernel_rfl) ?_
          repeat (quiet_step ((first | (go_at_call 62; exact HMay.out _ _) | (go_at_call 43; exact HLenQ.out _ _))))
          refine wpQuiet_nil ?_
          intro _ hw'
          obtain ⟨⟨dq, osq⟩, hw''⟩ := hw'
          subst hw''
          have HW := Lib.hid (below_regrown (wr.alloc (.cells #[.int .i64 ln, .slice As wl.length cs] 73)) dq osq)
          generalize Sort.grow (redrawn (wr.alloc (.cells #[.int .i64 ln, .slice As wl.length cs] 73)) dq) osq = w5 at *
          clear q0 q1 q2
          go_wp2_with fail
          go_ret
          exact ⟨rfl, HBT.out.trans (((Below.refl _ _).alloc (by omega) _).trans (HW.out.mono (by simp; omega)))⟩
    · obtain rfl : i = rs.length := by omega
      obtain rfl : r = true := HR.out.trans (mayW_yes ⟨by omega, by omega, HAll.out⟩)
      go_wp2_with fail
      go_ret
      exact ⟨rfl, HBT.out⟩
end Go.Proofs.Ytdmfhpigchbcbaa
