/-
  Contracts of pack.Wide and of the reference's PackWide, and the walk of the law PackWides: both answer how many bits are enough for all numbers. Conditions: the list can be read as data.
-/
import Derived.Test.YtihiiabibcogjaaBase
import Derived.Test.YtihiiabibcogjaaLenPlain
import Derived.Test.YtihiiabibcogjaaPackedPlain
import Derived.Test.YtihiiabibcogjaaShelf
namespace Go.Proofs.Ytihiiabibcogjaa
open Go Go.RowKit Go.Dam
set_option linter.unusedVariables false

/-- What Wide answers: a width, and a code. -/
def WideR (l : List Int) (r c : Int) : Prop :=
  ((∀ x ∈ l, 0 ≤ x ∧ x < 4611686018427387904) ∧ r = (wideTo l l.length : Nat) ∧ c = 0) ∨ ((∃ x ∈ l, ¬ (0 ≤ x ∧ x < 4611686018427387904)) ∧ r = 0 ∧ c = 2)
theorem WideR.ex (l : List Int) : ∃ r c, WideR l r c := by
  by_cases h : ∀ x ∈ l, 0 ≤ x ∧ x < 4611686018427387904
  · exact ⟨_, _, .inl ⟨h, rfl, rfl⟩⟩
  · exact ⟨_, _, .inr ⟨by simpa using h, rfl, rfl⟩⟩
theorem WideR.bad {l : List Int} {r c : Int} (h : WideR l r c) {x : Int} (hx : x ∈ l) (hb : ¬ (0 ≤ x ∧ x < 4611686018427387904)) : r = 0 ∧ c = 2 := by
  rcases h with ⟨h, _⟩ | ⟨_, h⟩
  · exact absurd (h x hx) hb
  · exact h
theorem WideR.good {l : List Int} {r c : Int} (h : WideR l r c) (hf : ∀ j, j < l.length → 0 ≤ l.getD j 0 ∧ l.getD j 0 < 4611686018427387904) : r = (wideTo l l.length : Nat) ∧ c = 0 := by
  rcases h with ⟨_, h⟩ | ⟨⟨x, hx, h⟩, _⟩
  · exact h
  · obtain ⟨j, hj, rfl⟩ := List.getElem_of_mem hx
    have := hf j hj
    rw [List.getD_eq_getElem?_getD, List.getElem?_eq_getElem hj] at this
    exact absurd this h
set_option maxHeartbeats 1000000 in
theorem wide_any (v : Value) (l : List Int) (r cc : Int) (w : World) (B : Nat) (h : IsInts .i64 w B v l) (hR : WideR l r cc) :
    Calls Try.prog 34 #[v] w fun e w' => e = .returned (.tuple #[.int .i64 r, .int .i64 cc]) ∧ w = w' := by
  obtain ⟨A, c, rfl, hc, hcm, hb, hr, hw⟩ := h
  have HR := Lib.hid hR
  clear hR
  go_enter Try.func34, Try.ntmps34
  go_wp2_with fail
  go_loop [4, 9] (fun nv iv => ∃ i : Nat, i ≤ l.length ∧ iv = .int .i64 i ∧ nv = .int .i64 (wideTo l i : Nat) ∧ ∀ j, j < i → 0 ≤ l.getD j 0 ∧ l.getD j 0 < 4611686018427387904) (fun _ iv => l.length - (intOf iv).toNat)
  case atStart => exact ⟨0, by omega, rfl, by rw [wideTo_0]; rfl, fun j hj => absurd hj (by omega)⟩
  case round =>
    obtain ⟨i, hi, rfl, rfl, hfits⟩ := hrel
    by_cases hlt : i < l.length
    · obtain ⟨b, off, rfl, hbB, hcells⟩ := ints_cells hr (by omega)
      have k2 := hcells i hlt
      have hxm : l.getD i 0 ∈ l := by rw [List.getD_eq_getElem?_getD, List.getElem?_eq_getElem hlt]; exact List.getElem_mem _
      have hx64 := wf_i64 (hw _ hxm)
      have hst := wideTo_succ l i
      have hbad := HR.out.bad hxm
      generalize hx : l.getD i 0 = x at *
      by_cases hx0 : x < 0
      · have HB := Lib.hid (hbad (by omega))
        clear hcells hst hbad hx hfits hxm
        go_wp2_with fail
        go_ret2
        exact ⟨ret2 (vint HB.out.1.symm) (vint HB.out.2.symm), rfl⟩
      · obtain ⟨n, rfl⟩ := Int.eq_ofNat_of_zero_le (by omega : 0 ≤ x)
        have hle := bitLen_le 62 n (by omega)
        have hL := fun W => Try.bits_Len (n : Int) W (by omega) (by omega)
        simp only [Int.toNat_natCast] at hL hst
        have hbl : Lib.bitLen n ≤ 64 := (bitLen_le 64 n (by omega)).2 (by omega)
        generalize Lib.bitLen n = bn at *
        have HL := Lib.hid hL
        by_cases h62 : bn ≤ 62
        · have hn62 : n < 4611686018427387904 := hle.1 h62
          have HS := Lib.hid hst
          have HF : Hid (∀ j, j < i + 1 → 0 ≤ l.getD j 0 ∧ l.getD j 0 < 4611686018427387904) := Lib.hid fun j hj => by
            rcases Nat.lt_or_ge j i with h | h
            · exact hfits j h
            · rw [show j = i from by omega, hx]; omega
          have hnb : ¬ (62 < (bn : Int)) := by omega
          clear hcells hst hbad hx hfits hxm hle hL
          go_wp2_with (go_at_call 46; refine (HL.out _).mono ?_; rintro e w' ⟨rfl, rfl⟩)
          go_round
          case rel => exact ⟨i + 1, by omega, by go_num, vint (by rw [HS.out]; omega), HF.out⟩
          case measure => simp [intOf]; omega
        · have HB := Lib.hid (hbad (by
            have : ¬ n < 2 ^ 62 := fun h => h62 (hle.2 h)
            omega))
          have hnb : 62 < (bn : Int) := by omega
          clear hcells hst hbad hx hfits hxm hle hL
          go_wp2_with (go_at_call 46; refine (HL.out _).mono ?_; rintro e w' ⟨rfl, rfl⟩)
          go_ret2
          exact ⟨ret2 (vint HB.out.1.symm) (vint HB.out.2.symm), rfl⟩
    · obtain rfl : i = l.length := by omega
      have HG := Lib.hid (HR.out.good hfits)
      clear hfits
      go_wp2
      go_ret2
      exact ⟨ret2 (vint HG.out.1.symm) (vint HG.out.2.symm), rfl⟩
set_option maxRecDepth 100000 in
set_option maxHeartbeats 1000000 in
theorem refWide_any (v : Value) (l : List Int) (r cc : Int) (w : World) (B : Nat) (h : IsInts .i64 w B v l) (hR : WideR l r cc) :
    Calls Try.prog 35 #[v] w fun e w' => e = .returned (.tuple #[.int .i64 r, .int .i64 cc]) ∧ w = w' := by
  obtain ⟨A, c, rfl, hc, hcm, hb, hr, hw⟩ := h
  have HR := Lib.hid hR
  clear hR
  go_enter Try.func35, Try.ntmps35
  go_wp2_with fail
  go_loop [4, 9] (fun nv iv => ∃ i : Nat, i ≤ l.length ∧ iv = .int .i64 i ∧ wideTo l i ≤ 62 ∧ nv = .int .i64 (wideTo l i : Nat) ∧ ∀ j, j < i → 0 ≤ l.getD j 0 ∧ l.getD j 0 < 4611686018427387904) (fun _ iv => l.length - (intOf iv).toNat)
  case atStart => exact ⟨0, by omega, rfl, by rw [wideTo_0]; omega, by rw [wideTo_0]; rfl, fun j hj => absurd hj (by omega)⟩
  case round =>
    obtain ⟨i, hi, rfl, hle0, rfl, hfits⟩ := hrel
    by_cases hlt : i < l.length
    · obtain ⟨b, off, rfl, hbB, hcells⟩ := ints_cells hr (by omega)
      have k2 := hcells i hlt
      have hxm : l.getD i 0 ∈ l := by rw [List.getD_eq_getElem?_getD, List.getElem?_eq_getElem hlt]; exact List.getElem_mem _
      have hx64 := wf_i64 (hw _ hxm)
      have hst := wideTo_succ l i
      have hbad := HR.out.bad hxm
      generalize hx : l.getD i 0 = x at *
      by_cases hx0 : x < 0
      · have HB := Lib.hid (hbad (by omega))
        clear hcells hst hbad hx hfits hxm
        go_wp2_with fail
        go_ret2
        exact ⟨ret2 (vint HB.out.1.symm) (vint HB.out.2.symm), rfl⟩
      · by_cases h62 : x < 4611686018427387904
        · have hle := (bitLen_le 62 x.toNat (by omega)).2 (by omega)
          have hiff := fun k => bitLen_iff k x.toNat (by omega)
          generalize Lib.bitLen x.toNat = bn at *
          have HI := Lib.hid hiff
          have HS := Lib.hid hst
          have HF : Hid (∀ j, j < i + 1 → 0 ≤ l.getD j 0 ∧ l.getD j 0 < 4611686018427387904) := Lib.hid fun j hj => by
            rcases Nat.lt_or_ge j i with h | h
            · exact hfits j h
            · rw [show j = i from by omega, hx]; omega
          have hd1 : decide (x < 0) = false := by simp; omega
          have hd2 : decide (4611686018427387904 ≤ x) = false := by simp; omega
          obtain ⟨w0, hw0⟩ : ∃ w0, w0 = wideTo l i := ⟨_, rfl⟩
          rw [← hw0] at hle0 ⊢
          have HW0 := Lib.hid hw0
          clear hcells hst hbad hx hfits hxm hiff hw0
          go_wp2_with fail
          go_loop [4] (fun nv => ∃ k : Nat, w0 ≤ k ∧ k ≤ max w0 bn ∧ nv = .int .i64 k) (fun nv => 62 - (intOf nv).toNat)
          case atStart => exact ⟨w0, by omega, by omega, rfl⟩
          case round =>
            obtain ⟨k, hk1, hk2, rfl⟩ := hrel
            have hpw := pow_i64 k (by omega)
            have hk := HI.out k
            obtain ⟨q, hq⟩ : ∃ q : Nat, q = 2 ^ k := ⟨_, rfl⟩
            rw [← hq] at hpw hk
            clear hq
            by_cases hkb : k < bn
            · have hqn : (q : Int) ≤ x := by have := hk.1 hkb; omega
              have hk62 : k < 62 := by omega
              clear hk
              go_wp2
              go_round
              case rel => exact ⟨k + 1, by omega, by omega, by go_num⟩
              case measure => simp [intOf]; omega
            · have hqn : ¬ (q : Int) ≤ x := fun h => hkb (hk.2 (by omega))
              have hkm : Hid (k = wideTo l (i + 1)) := Lib.hid (by rw [HS.out, ← HW0.out]; omega)
              have hle1 : Hid (wideTo l (i + 1) ≤ 62) := Lib.hid (by rw [← hkm.out]; omega)
              clear hk
              go_wp2
              go_round
              case rel => exact ⟨i + 1, by omega, by go_num, hle1.out, by rw [← hkm.out], HF.out⟩
              case measure => simp [intOf]; omega
        · have HB := Lib.hid (hbad (by omega))
          have hx2 : 4611686018427387904 ≤ x := by omega
          clear hcells hst hbad hx hfits hxm h62
          go_wp2_with fail
          go_ret2
          exact ⟨ret2 (vint HB.out.1.symm) (vint HB.out.2.symm), rfl⟩
    · obtain rfl : i = l.length := by omega
      have HG := Lib.hid (HR.out.good hfits)
      clear hfits
      go_wp2
      go_ret2
      exact ⟨ret2 (vint HG.out.1.symm) (vint HG.out.2.symm), rfl⟩
set_option maxHeartbeats 400000 in
theorem packWides_walk (v : Value) (w : World) (h : ∃ l, IsInts .i64 w w.heap.size v l) :
    Calls Try.prog 13 #[v] w fun e w' => e = .returned (.bool true) ∧ Below w.heap.size w w' := by
  obtain ⟨l, h⟩ := h
  obtain ⟨r, cc, hR⟩ := WideR.ex l
  have HH := Lib.hid h
  have HR := Lib.hid hR
  clear h hR
  go_enter Try.func13, Try.ntmps13
  go_wp2_with (first
    | (go_at_call 34; refine (wide_any _ l r cc _ w.heap.size HH.out HR.out).mono ?_; rintro e w1 ⟨rfl, rfl⟩)
    | (go_at_call 35; refine (refWide_any _ l r cc _ w.heap.size HH.out HR.out).mono ?_; rintro e w1 ⟨rfl, rfl⟩))
  all_goals (go_ret; exact ⟨ret_bool (by simp), Below.refl _ _⟩)
end Go.Proofs.Ytihiiabibcogjaa
