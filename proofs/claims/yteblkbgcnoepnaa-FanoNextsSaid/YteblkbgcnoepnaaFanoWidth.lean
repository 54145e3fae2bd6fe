/-
  Contracts of fano.width and slices.IsSorted at ints. Conditions: the numbers are small; the list can be read as data.
-/
import Derived.Test.YteblkbgcnoepnaaFanoPlain
import Derived.Test.YteblkbgcnoepnaaLib
import Derived.Test.YteblkbgcnoepnaaBase
import Derived.Test.YteblkbgcnoepnaaShelf
namespace Go.Proofs.Yteblkbgcnoepnaa
open Go Go.RowKit Go.Dam
set_option linter.unusedVariables false
set_option maxRecDepth 100000 in
set_option maxHeartbeats 1000000 in
theorem fanoWidth_any (bound n W : Nat) (w : World) (hb : bound ≤ 1048576) (hn : n ≤ 300) (hW : WidF bound n W) :
    Calls Try.prog 57 #[.int .i64 bound, .int .i64 n] w fun e w' => e = .returned (.int .i64 W) ∧ w = w' := by
  have hW20 := hW.le hb
  have HW := Lib.hid hW
  rcases Nat.eq_zero_or_pos n with h0 | h0
  · subst h0
    have : W = 0 := by
      have h1 : WidF bound 0 0 := by unfold WidF; exact .inl ⟨rfl, rfl⟩
      exact hW.uniq h1
    subst this
    clear HW hW
    go_enter Try.func57, Try.ntmps57
    go_wp2_with fail
    go_loop [5] (fun v => v = .int .i64 0) (fun _ => 0)
    case atStart => rfl
    case round =>
      subst hrel
      go_wp2_with fail
      go_ret
      exact ⟨rfl, rfl⟩
  · clear hW
    go_enter Try.func57, Try.ntmps57
    go_wp2_with fail
    go_loop [5] (fun v => ∃ t : Nat, t ≤ W ∧ v = .int .i64 t) (fun v => W - (intOf v).toNat)
    case atStart => exact ⟨0, by omega, rfl⟩
    case round =>
      obtain ⟨t, ht, rfl⟩ := hrel
      obtain ⟨Q, hQ⟩ : ∃ Q : Nat, Q = 2 ^ (t + 1) := ⟨_, rfl⟩
      have hQb : Q ≤ 2097152 := by
        have h1 : 2 ^ (t + 1) ≤ 2 ^ 21 := Nat.pow_le_pow_right (by decide) (by omega)
        omega
      have hpi : (2 : Int) ^ (t + 1) = (Q : Int) := by rw [hQ]; simp
      have hnQ : n * Q ≤ 300 * 2097152 := Nat.mul_le_mul hn hQb
      obtain ⟨M, hM⟩ : ∃ M, M = n * Q := ⟨_, rfl⟩
      have hMi : (n : Int) * (Q : Int) = (M : Int) := by rw [hM]; simp
      rw [← hM] at hnQ
      by_cases hlt : t < W
      · have hle : M ≤ bound := by rw [hM, hQ]; exact HW.out.below h0 (by omega) (by omega)
        clear hQ hM
        go_wp2_with fail
        go_round
        case rel => exact ⟨t + 1, by omega, by go_num⟩
        case measure => simp [intOf]; omega
      · obtain rfl : t = W := by omega
        have hgt : ¬ M ≤ bound := by
          have := HW.out.above h0 (Nat.lt_succ_self t)
          rw [hM, hQ]; exact Nat.not_le.2 this
        clear hQ hM
        go_wp2_with fail
        go_ret
        exact ⟨rfl, rfl⟩
set_option maxRecDepth 100000 in
set_option maxHeartbeats 1000000 in
theorem isSorted_any (v : Value) (l : List Int) (r : Bool) (w : World) (B : Nat) (h : IsInts .i64 w B v l) (hr : (r = true ∧ SortedN l) ∨ (r = false ∧ ¬ SortedN l)) :
    Calls Try.prog 56 #[v] w fun e w' => e = .returned (.bool r) ∧ Drawn w w' := by
  obtain ⟨A, c, rfl, hc, hm, hb, hrd, hw⟩ := h
  have HR := Lib.hid hr
  have HL := Lib.hid fun x y W => Try.cmp_Less_int2 x y W
  clear hr
  go_enter Try.func56, Try.ntmps56
  go_wp2_with fail
  go_loopw [3] (fun iv wr => ∃ i : Int, iv = .int .i64 i ∧ -1 ≤ i ∧ i < l.length ∧ (∀ j : Nat, i < (j : Int) → 0 < j → j < l.length → l.getD (j - 1) 0 ≤ l.getD j 0) ∧ Drawn w wr) (fun iv _ => (intOf iv).toNat)
  case atStart => exact ⟨_, rfl, by omega, by omega, (fun j h1 _ h2 => by omega), Drawn.refl _⟩
  case round =>
    obtain ⟨i, rfl, hi1, hi2, hall, hd⟩ := hrel
    by_cases hpos : 0 < i
    · obtain ⟨k, rfl⟩ : ∃ k : Nat, i = ((k + 1 : Nat) : Int) := ⟨(i - 1).toNat, by omega⟩
      obtain ⟨b, off, rfl, hbb, hcells⟩ := ints_cells hrd (by omega)
      have k1 := (hd.cell ⟨b, off + (k + 1), none⟩).trans (hcells (k + 1) (by omega))
      have k0 := (hd.cell ⟨b, off + k, none⟩).trans (hcells k (by omega))
      have hk1 : k + 1 < l.length := by omega
      have HAll := Lib.hid hall
      have HD := Lib.hid hd
      have hsub : ((k + 1 : Nat) : Int) - 1 = (k : Int) := by omega
      have HS : Hid (l.getD (k + 1) 0 < l.getD k 0 → ¬ SortedN l) := Lib.hid fun h hs => by have := hs k hk1; omega
      have HNext : Hid (¬ l.getD (k + 1) 0 < l.getD k 0 → ∀ j : Nat, (k : Int) < (j : Int) → 0 < j → j < l.length → l.getD (j - 1) 0 ≤ l.getD j 0) := Lib.hid fun h j h1 h2 h3 => by
        by_cases hj : j = k + 1
        · subst hj; simp only [Nat.add_sub_cancel]; omega
        · exact hall j (by omega) h2 h3
      clear hcells hall hd
      generalize l.getD (k + 1) 0 = x at *
      generalize l.getD k 0 = y at *
      by_cases hxy : x < y
      · obtain rfl : r = false := by
          rcases HR.out with ⟨_, h⟩ | ⟨h, _⟩
          · exact absurd h (HS.out hxy)
          · exact h
        have hdx : decide (x < y) = true := decide_eq_true hxy
        have HLx : Hid (∀ W, Calls Try.prog 75 #[.int .i64 x, .int .i64 y] W fun e w' => e = .returned (.bool true) ∧ w' = W) := Lib.hid fun W => by have := HL.out x y W; rwa [hdx] at this
        clear hdx
        go_wp2_with fail
        go_quiet ((go_at_call 75; exact Calls.quiet_of_same (HLx.out _)))
        go_wp2_with fail
        go_ret
        exact ⟨rfl, HD.out.drewN _⟩
      · have hdx : decide (x < y) = false := decide_eq_false hxy
        have HLx : Hid (∀ W, Calls Try.prog 75 #[.int .i64 x, .int .i64 y] W fun e w' => e = .returned (.bool false) ∧ w' = W) := Lib.hid fun W => by have := HL.out x y W; rwa [hdx] at this
        have HN := Lib.hid (HNext.out hxy)
        clear hdx
        go_wp2_with fail
        go_quiet ((go_at_call 75; exact Calls.quiet_of_same (HLx.out _)))
        go_wp2_with fail
        go_roundw
        case rel => exact ⟨(k : Int), by go_num, by omega, by omega, HN.out, HD.out.drewN _⟩
        case measure => simp [intOf]
    · obtain rfl : r = true := by
        rcases HR.out with ⟨h, _⟩ | ⟨_, h⟩
        · exact h
        · exact absurd (fun j hj => by have := hall (j + 1) (by omega) (by omega) hj; simpa using this) h
      have HD := Lib.hid hd
      clear hall hd
      go_wp2_with fail
      go_ret
      exact ⟨rfl, HD.out⟩
end Go.Proofs.Yteblkbgcnoepnaa
