/-
  Contract of pack.get: the number of so many bits at a bit. Conditions: the bits lie within the words, at most 62 of them.
-/
import Derived.Test.YteblkbgcnoepnaaWords
import Derived.Test.YteblkbgcnoepnaaPackedPlain
namespace Go.Dam
open Go
theorem numAt_low (ws : List Nat) (a m : Nat) (hm : a % 64 + m ≤ 64) : numAt ws a m = ws.getD (a / 64) 0 / 2 ^ (a % 64) % 2 ^ m := by
  apply Nat.eq_of_testBit_eq
  intro j
  rw [numAt_bit, Nat.testBit_mod_two_pow, Nat.testBit_div_two_pow]
  by_cases hj : j < m
  · rw [bitAt_eq, show (a + j) / 64 = a / 64 from by omega, show (a + j) % 64 = a % 64 + j from by omega]
    rw [Nat.add_comm (a % 64)]
  · simp [hj]
theorem numAt_high (ws : List Nat) (a m : Nat) (hm : m ≤ 62) (hlt : 64 < a % 64 + m) (hw : ∀ z ∈ ws, z < 18446744073709551616) :
    numAt ws a m = (ws.getD (a / 64) 0 / 2 ^ (a % 64) ||| ws.getD (a / 64 + 1) 0 * 2 ^ (64 - a % 64) % 18446744073709551616) % 2 ^ m := by
  apply Nat.eq_of_testBit_eq
  intro j
  rw [numAt_bit, Nat.testBit_mod_two_pow, Nat.testBit_or, Nat.testBit_div_two_pow, show (18446744073709551616 : Nat) = 2 ^ 64 from rfl, Nat.testBit_mod_two_pow, Nat.testBit_mul_two_pow]
  by_cases hj : j < m
  · simp only [hj, decide_true, Bool.true_and]
    rw [bitAt_eq]
    by_cases h1 : a % 64 + j < 64
    · rw [show (a + j) / 64 = a / 64 from by omega, show (a + j) % 64 = a % 64 + j from by omega, Nat.add_comm (a % 64)]
      simp; omega
    · have hx : ws.getD (a / 64) 0 < 2 ^ 64 := by
        rw [List.getD_eq_getElem?_getD]
        rcases Nat.lt_or_ge (a / 64) ws.length with h | h
        · rw [List.getElem?_eq_getElem h]; exact hw _ (List.getElem_mem _)
        · rw [List.getElem?_eq_none h]; simp
      rw [show (a + j) / 64 = a / 64 + 1 from by omega, Nat.testBit_lt_two_pow (Nat.lt_of_lt_of_le hx (Nat.pow_le_pow_right (by decide : 0 < 2) (by omega : 64 ≤ j + a % 64)))]
      rw [show (a + j) % 64 = j - (64 - a % 64) from by omega, decide_eq_true (show 64 - a % 64 ≤ j from by omega), decide_eq_true (show j < 64 from by omega)]
      simp
  · simp [hj]
end Go.Dam
namespace Go.Proofs.Yteblkbgcnoepnaa
open Go Go.RowKit Go.Dam
set_option linter.unusedVariables false
set_option maxHeartbeats 1000000 in
theorem get_any (v : Value) (a m : Nat) (ws : List Nat) (w : World) (B : Nat) (h : IsWords w B v ws) (hm : m ≤ 62) (ha : a + m ≤ 64 * ws.length) (ha' : a ≤ 18600) :
    Calls Try.prog 89 #[v, .int .i64 a, .int .i64 m] w fun e w' => e = .returned (.int .i64 (numAt ws a m)) ∧ w = w' := by
  obtain ⟨A, c, rfl, hc, hcm, hl, hr, hw⟩ := h
  have hnl := numAt_lt ws a m
  have hp : 2 ^ m ≤ 2 ^ 62 := Nat.pow_le_pow_right (by decide) hm
  by_cases h0 : m = 0
  · have t0 : ((m : Int) == 0) = true := by simp; omega
    have HN : Hid (numAt ws a m = 0) := Lib.hid (by rw [h0, numAt_0])
    clear h0
    go_enter Try.func89, Try.ntmps89
    go_wp2
    go_ret
    exact ⟨ret_int (by rw [HN.out]; rfl), rfl⟩
  have t0 : ((m : Int) == 0) = false := by simp; omega
  obtain ⟨b, off, rfl, hb, hcells⟩ := word_at hr (by omega)
  have k0 := hcells (a / 64) (by omega)
  have hx := word_lt hw (a / 64)
  by_cases h1 : a % 64 + m ≤ 64
  · have hN := numAt_low ws a m h1
    generalize ws.getD (a / 64) 0 = x at *
    have e1 := mask_and (x / 2 ^ (a % 64)) m (Nat.lt_of_le_of_lt (Nat.div_le_self _ _) hx) (by omega)
    rw [← hN] at e1
    have e2 : bits .and .u64 ((x : Int) / 2 ^ (a % 64)) (IntKind.u64.wrap (IntKind.u64.wrap (2 ^ m) - 1)) = (numAt ws a m : Int) := by rw [← e1]; congr 1
    generalize numAt ws a m = r at *
    clear hcells hN e1
    go_enter Try.func89, Try.ntmps89
    go_wp2
    go_ret
    exact ⟨rfl, rfl⟩
  · have hN := numAt_high ws a m hm (by omega) hw
    have k1 := hcells (a / 64 + 1) (by omega)
    have hy := word_lt hw (a / 64 + 1)
    generalize ws.getD (a / 64) 0 = x at *
    generalize ws.getD (a / 64 + 1) 0 = y at *
    have hxd : x / 2 ^ (a % 64) < 18446744073709551616 := Nat.lt_of_le_of_lt (Nat.div_le_self _ _) hx
    obtain ⟨q, hq⟩ : ∃ q, q = (x / 2 ^ (a % 64) ||| y * 2 ^ (64 - a % 64) % 18446744073709551616) := ⟨_, rfl⟩
    have hql : q < 18446744073709551616 := by rw [hq]; exact Nat.or_lt_two_pow (n := 64) hxd (Nat.mod_lt _ (by decide))
    rw [← hq] at hN
    have e0 : bits .or .u64 ((x : Int) / 2 ^ (a % 64)) (IntKind.u64.wrap ((y : Int) * 2 ^ (64 - a % 64))) = (q : Int) := by
      rw [hq, wrap_u64]
      exact or_u64 _ _ _ _ (by simp) (by simp) hxd (Nat.mod_lt _ (by decide))
    have e1 := mask_and q m hql (by omega)
    rw [← hN] at e1
    generalize numAt ws a m = r at *
    clear hcells hN hq
    go_enter Try.func89, Try.ntmps89
    go_wp2
    go_ret
    exact ⟨rfl, rfl⟩
end Go.Proofs.Yteblkbgcnoepnaa
