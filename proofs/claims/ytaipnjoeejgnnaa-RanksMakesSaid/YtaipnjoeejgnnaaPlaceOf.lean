/-
  Contracts of the reference's orders (how many) and placeOf (where a number stands first). Conditions: the arguments are ints.
-/
import Derived.Test.YtaipnjoeejgnnaaPermCheckPlain
import Derived.Test.YtaipnjoeejgnnaaPermPlain
namespace Go.Proofs.Ytaipnjoeejgnnaa
open Go Go.RowKit Go.Dam
set_option linter.unusedVariables false
set_option maxHeartbeats 400000 in
theorem placeOf_any (v : Value) (l : List Int) (y : Int) (w : World) (B : Nat) (h : IsInts .i64 w B v l) :
    Calls Try.prog 89 #[v, .int .i64 y] w fun e w' => (∃ r : Int, e = .returned (.int .i64 r) ∧ ((∃ i : Nat, r = i ∧ i < l.length ∧ l.getD i 0 = y ∧ ∀ j, j < i → l.getD j 0 ≠ y) ∨ (r = -1 ∧ ∀ j, j < l.length → l.getD j 0 ≠ y))) ∧ w = w' := by
  obtain ⟨A, c, rfl, hc, hm, hn, hr, hw⟩ := h
  clear hw
  go_enter Try.func89, Try.ntmps89
  go_wp2_with fail
  go_loop [9] (fun iv => ∃ i : Nat, i ≤ l.length ∧ iv = .int .i64 i ∧ ∀ j, j < i → l.getD j 0 ≠ y) (fun iv => l.length - (intOf iv).toNat)
  case atStart => exact ⟨0, by omega, rfl, fun j hj => absurd hj (by omega)⟩
  case round =>
    obtain ⟨i, hi, rfl, hno⟩ := hrel
    by_cases hlt : i < l.length
    · obtain ⟨b, off, rfl, hb, hcells⟩ := ints_cells hr (by omega)
      have k0 := hcells i hlt
      have HNo := Lib.hid hno
      by_cases he : l.getD i 0 = y
      · have HE := Lib.hid he
        rw [he] at k0
        clear hcells hno he
        go_wp2_with fail
        go_ret
        exact ⟨⟨_, rfl, .inl ⟨i, rfl, hlt, HE.out, HNo.out⟩⟩, rfl⟩
      · have HN : Hid (∀ j, j < i + 1 → l.getD j 0 ≠ y) := Lib.hid fun j hj => by
          rcases Nat.lt_or_ge j i with g | g
          · exact hno j g
          · rw [show j = i from by omega]; exact he
        have t0 : (l.getD i 0 == y) = false := by rw [beq_eq_false_iff_ne]; exact he
        generalize l.getD i 0 = x at *
        clear hcells hno he
        go_wp2_with fail
        go_round
        case rel => exact ⟨i + 1, by omega, by go_num, HN.out⟩
        case measure => simp [intOf]; omega
    · obtain rfl : i = l.length := by omega
      have HNo := Lib.hid hno
      clear hno
      go_wp2
      go_ret
      exact ⟨⟨_, rfl, .inr ⟨rfl, HNo.out⟩⟩, rfl⟩
theorem nats_at {o : List Nat} {i : Nat} : (o.map (fun k : Nat => (k : Int))).getD i 0 = ((o.getD i 0 : Nat) : Int) := by
  rcases Nat.lt_or_ge i o.length with h | h
  · simp [h]
  · simp [List.getD_eq_getElem?_getD, h]
theorem place_contains {o : List Nat} {y : Nat} {r : Int} (h : (∃ i : Nat, r = i ∧ i < (o.map (fun k : Nat => (k : Int))).length ∧ (o.map (fun k : Nat => (k : Int))).getD i 0 = (y : Int) ∧ ∀ j, j < i → (o.map (fun k : Nat => (k : Int))).getD j 0 ≠ (y : Int)) ∨ (r = -1 ∧ ∀ j, j < (o.map (fun k : Nat => (k : Int))).length → (o.map (fun k : Nat => (k : Int))).getD j 0 ≠ (y : Int))) :
    (o.contains y = true ∧ 0 ≤ r) ∨ (o.contains y = false ∧ r = -1) := by
  rcases h with ⟨i, rfl, hi, he, _⟩ | ⟨rfl, h⟩
  · refine .inl ⟨?_, by omega⟩
    rw [nats_at] at he
    rw [List.length_map] at hi
    have e : o.getD i 0 = y := by omega
    have e2 : o.getD i 0 = o[i] := by simp [hi]
    rw [List.contains_iff_mem, ← e, e2]; exact List.getElem_mem hi
  · refine .inr ⟨?_, rfl⟩
    cases hc : o.contains y with
    | false => rfl
    | true =>
      rw [List.contains_iff_mem] at hc
      obtain ⟨i, hi, e⟩ := List.mem_iff_getElem.1 hc
      have := h i (by rw [List.length_map]; exact hi)
      rw [nats_at] at this
      have e2 : o.getD i 0 = o[i] := by simp [hi]
      omega
end Go.Proofs.Ytaipnjoeejgnnaa
