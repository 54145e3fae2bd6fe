/-
  Contract of the reference's numText: a number as a text. Conditions: the number lies within the coordinates.
-/
import Derived.Test.YtlojecajonhmhaaGreatDoorMQueryEvals43
set_option linter.unusedVariables false
set_option linter.unusedSimpArgs false
namespace Go.Dam.Q
open Go Go.RowKit Go.Dam
set_option linter.unusedVariables false
theorem enc_digit {d : Int} (h0 : 0 ≤ d) (h1 : d < 10) : Utf8.encode (48 + d) = ⟨[UInt8.ofNat (48 + d.toNat)].toArray⟩ := by
  obtain ⟨n, rfl⟩ : ∃ n : Nat, d = (n : Int) := ⟨d.toNat, by omega⟩
  have h : n = 0 ∨ n = 1 ∨ n = 2 ∨ n = 3 ∨ n = 4 ∨ n = 5 ∨ n = 6 ∨ n = 7 ∨ n = 8 ∨ n = 9 := by omega
  rcases h with rfl | rfl | rfl | rfl | rfl | rfl | rfl | rfl | rfl | rfl <;> rfl
theorem dec_big {m : Nat} (h : 9 < m) : Lib.decDigits m = Lib.decDigits (m / 10) ++ [UInt8.ofNat (48 + m % 10)] := by
  rw [Lib.decDigits, dif_neg (by omega)]
end Go.Dam.Q
namespace Go.Proofs.YtlojecajonhmhaaGreatDoor
open Go Go.RowKit Go.Dam Go.Dam.Q
set_option linter.unusedVariables false
set_option maxRecDepth 100000 in
set_option maxHeartbeats 4000000 in
theorem numText_nat (u : Nat) (w : World) (hu : u ≤ 1048576) :
    Calls Tryz.prog 31 #[.int .i64 u] w fun e w' => e = .returned (.string ⟨(Lib.decDigits u).toArray⟩) ∧ w = w' := by
  obtain ⟨D, hD⟩ : ∃ D, D = Lib.decDigits u := ⟨_, rfl⟩
  rw [← hD]
  have HD := Lib.hid hD
  clear hD
  have t0 : decide ((u : Int) < 0) = false := decide_eq_false (by omega)
  have u0 : ¬ (u : Int) < 0 := by omega
  go_enter Tryz.func31, Tryz.ntmps31
  go_wp2_with fail
  go_loop [0, 3] (fun nv sv => ∃ (m : Nat) (st : List UInt8), nv = .int .i64 m ∧ sv = .string ⟨st.toArray⟩ ∧ m ≤ 1048576 ∧ Hid (D = Lib.decDigits m ++ st)) (fun nv _ => (intOf nv).toNat)
  case atStart => exact ⟨u, [], rfl, rfl, hu, Lib.hid (by rw [HD.out, List.append_nil])⟩
  case round =>
    obtain ⟨m, st, rfl, rfl, hm, HS⟩ := hrel
    by_cases hlt : 9 < m
    · have t1 : decide ((9 : Int) < (m : Int)) = true := decide_eq_true (by omega)
      have hen := enc_digit (d := (m : Int) % 10) (by omega) (by omega)
      have hdb := dec_big hlt
      rw [show ((m : Int) % 10).toNat = m % 10 by omega] at hen
      obtain ⟨dg, hdg⟩ : ∃ dg, dg = UInt8.ofNat (48 + m % 10) := ⟨_, rfl⟩
      rw [← hdg] at hen hdb
      obtain ⟨q, hq⟩ : ∃ q, q = m / 10 := ⟨_, rfl⟩
      rw [← hq] at hdb
      have hqi : (m : Int) / 10 = (q : Int) := by omega
      have HSl : Hid (st.length < 100 → True) := Lib.hid fun _ => trivial
      have hle : st.length ≤ D.length := by rw [HS.out]; simp
      have hDl : D.length ≤ 8 := by rw [HD.out, Lib.decDigits_length]; exact Nat.le_trans (nDigits_le 6 u (by omega)) (by omega)
      obtain ⟨S, hS⟩ : ∃ S, S = dg :: st := ⟨_, rfl⟩
      have ha := fun W => add_str (P := Tryz.prog) [dg] st (c := S) (by rw [hS]; rfl) (by simp; omega) W
      have HS2 : Hid (D = Lib.decDigits q ++ S) := Lib.hid (by rw [HS.out, hdb, hS]; simp)
      have hqm : q < m := by omega
      clear hdb hdg hS hle hDl HSl
      have HQ := Lib.hid hq
      clear hq
      go_wp2_with fail
      go_round
      case rel => exact ⟨q, S, rfl, rfl, by omega, HS2⟩
      case measure => simp [intOf]; omega
    · have t1 : decide ((9 : Int) < (m : Int)) = false := decide_eq_false (by omega)
      have hen := enc_digit (d := (m : Int)) (by omega) (by omega)
      rw [Int.toNat_natCast] at hen
      have hds := Lib.decDigits_one (i := m) (by omega)
      obtain ⟨dg, hdg⟩ : ∃ dg, dg = UInt8.ofNat (48 + m) := ⟨_, rfl⟩
      rw [← hdg] at hen hds
      have hle : st.length ≤ D.length := by rw [HS.out]; simp
      have hDl : D.length ≤ 8 := by rw [HD.out, Lib.decDigits_length]; exact Nat.le_trans (nDigits_le 6 u (by omega)) (by omega)
      have ha := fun W => add_str (P := Tryz.prog) [dg] st (c := D) (by rw [HS.out, hds]) (by simp; omega) W
      clear hds hdg hle hDl
      go_wp2_with fail
      go_ret
      exact ⟨rfl, rfl⟩
theorem numText_any {n : Int} (h : -1048576 ≤ n ∧ n ≤ 1048576) (w : World) :
    Calls Tryz.prog 31 #[.int .i64 n] w fun e w' => e = .returned (.string ⟨(Lib.itoa n).toArray⟩) ∧ w = w' := by
  by_cases hn : n < 0
  · obtain ⟨u, hu⟩ : ∃ u : Nat, -n = (u : Int) := ⟨n.natAbs, by omega⟩
    have HI := Lib.hid (numText_nat u w (by omega))
    have e : Lib.itoa n = 45 :: Lib.decDigits u := by unfold Lib.itoa; rw [if_pos hn, show n.natAbs = u by omega]
    have hl : (Lib.decDigits u).length ≤ 8 := by rw [Lib.decDigits_length]; exact Nat.le_trans (nDigits_le 6 u (by omega)) (by omega)
    rw [e]
    generalize Lib.decDigits u = D at *
    obtain ⟨S, hS⟩ : ∃ S, S = 45 :: D := ⟨_, rfl⟩
    rw [← hS]
    have ha := fun W => add_str (P := Tryz.prog) [45] D (c := S) (by rw [hS]; rfl) (by simp; omega) W
    have t0 : decide (n < 0) = true := decide_eq_true hn
    have w0 : IntKind.i64.wrap (-n) = (u : Int) := by rw [IntKind.wrap_i64]; omega
    clear hS e hl
    go_enter Tryz.func31, Tryz.ntmps31
    go_wp2_with (go_at_call 31; refine (HI.out).mono ?_; rintro e w3 ⟨rfl, rfl⟩)
    go_ret
    exact ⟨rfl, rfl⟩
  · obtain ⟨u, rfl⟩ : ∃ u : Nat, n = (u : Int) := ⟨n.toNat, by omega⟩
    have e : Lib.itoa (u : Int) = Lib.decDigits u := by unfold Lib.itoa; rw [if_neg hn, Int.toNat_natCast]
    rw [e]
    exact numText_nat u w (by omega)
end Go.Proofs.YtlojecajonhmhaaGreatDoor
